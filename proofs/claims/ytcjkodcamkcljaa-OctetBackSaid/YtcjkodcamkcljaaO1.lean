/-
  What the small functions of octet compute, and their references.
-/
import Derived.Test.YtcjkodcamkcljaaCx
import Derived.Test.YtcjkodcamkcljaaOwn2
import Derived.Test.YtcjkodcamkcljaaSpec
namespace Go.Proofs.Ytcjkodcamkcljaa
open Go Go.RowKit Go.Proofs.Bw
set_option linter.unusedVariables false
set_option linter.unusedSimpArgs false

theorem letter_runs (b : UInt8) (w : World) : Runs Try.prog 27 #[.int .u8 b.toNat] w fun v w' => v = .bool (letterN b.toNat) ∧ Ext w w' := by
  refine Runs.of_vc cx_ok [0, 2, 3, 10, 17] [.v _] Try.func27 rfl rfl rfl (Holds.nil _) ?_
  repeat' (first | refine And.intro (fun h => ?_) (fun h => ?_) | fail)
  all_goals refine And.intro (congrArg Value.bool ?_) (Ext.refl _)
  all_goals
    simp only [sel, Bool.or_eq_true, Bool.and_eq_true, Bool.not_eq_true', Bool.not_eq_false', decide_eq_true_eq, decide_eq_false_iff_not, Bool.or_eq_false_iff, Bool.and_eq_false_iff, Bool.and_false, Bool.or_false, Bool.and_true, Bool.or_true, Bool.true_and, Bool.false_or, Bool.true_or, Bool.false_and, Bool.false_eq_true, Bool.true_eq_false, or_false, false_or, and_true, true_and, Bool.not_true, Bool.not_false] at *
    first | exact letterN_true (by omega) | exact letterN_false (by omega)

theorem Name_runs (s : ByteArray) (hs : s.size ≤ 9223372036854775807) (w : World) : Runs Try.prog 14 #[.string s] w fun v w' => v = .bool (nameB s) ∧ Ext w w' := by
  refine Runs.of_vc cx_ok [0, 2, 3, 5, 6, 7, 13] [.v _] Try.func14 rfl rfl rfl (Holds.nil _) ?_
  refine vLoop_mk (σ := Nat) (fun q => [(0, .v (.string s)), (5, .v (.int .i64 s.size)), (6, .v (.int .i64 q))]) (fun _ => []) (fun q w' => Ext w w' ∧ q ≤ s.size ∧ nameTo s q = true) (fun q => s.size - q) 0 (fun _ => ⟨rfl, rfl⟩) ⟨⟨rfl, rfl, rfl, trivial⟩, trivial, Ext.refl _, Nat.zero_le _, rfl⟩ ?_
  rintro q w1 hh ⟨x1, hq, hn⟩
  refine And.intro (fun h => ?_) (fun h => ?_)
  · have hlt := of_decide_eq_true h
    refine vsd (by omega) ?_
    refine vcS (letter_runs _ _) hh fun w2 x2 hh2 => ?_
    refine And.intro (fun h2 => ?_) (fun h2 => ?_)
    · refine And.intro (congrArg Value.bool ?_) (x1.trans x2)
      exact (nameB_no s q (by omega) (by simpa using h2)).symm
    · refine vsd (by simp only [inKind]; omega) ?_
      exact Exists.intro (q + 1) ⟨by omega, ⟨rfl, rfl, rfl, trivial⟩, trivial, x1.trans x2, by omega, by rw [nameTo_succ s q (by omega), hn]; simpa using h2⟩
  · have hge := of_decide_eq_false h
    have hqs : q = s.size := by omega
    subst hqs
    refine And.intro (congrArg Value.bool ?_) x1
    rw [← nameTo_size, hn, Bool.true_and]
    rw [Bool.eq_iff_iff]
    simp only [sel, Bool.or_eq_true, Bool.and_eq_true, Bool.not_eq_true', Bool.not_eq_false', decide_eq_true_eq, decide_eq_false_iff_not, Bool.or_eq_false_iff, Bool.and_eq_false_iff, Bool.and_false, Bool.or_false, Bool.and_true, Bool.or_true, Bool.true_and, Bool.false_or, Bool.true_or, Bool.false_and, Bool.false_eq_true, Bool.true_eq_false, or_false, false_or, and_true, true_and, Bool.not_true, Bool.not_false, bytes_nil]
    omega

theorem Is_runs (s : ByteArray) (hs : s.size ≤ 9223372036854775807) (w : World) : Runs Try.prog 15 #[.string s] w fun v w' => v = .bool (nameB s) ∧ Ext w w' := by
  refine Runs.of_vc cx_ok [0, 2, 3, 4, 5, 9, 51] [.v _] Try.func15 rfl rfl rfl (Holds.nil _) ?_
  refine vLoop_mk (σ := Nat) (fun q => [(0, .v (.string s)), (3, .v (.int .i64 q))]) (fun _ => []) (fun q w' => Ext w w' ∧ q ≤ s.size ∧ nameTo s q = true) (fun q => s.size - q) 0 (fun _ => ⟨rfl, rfl⟩) ⟨⟨rfl, rfl, trivial⟩, trivial, Ext.refl _, Nat.zero_le _, rfl⟩ ?_
  rintro q w1 hh ⟨x1, hq, hn⟩
  refine And.intro (fun h => ?_) (fun h => ?_)
  · have hlt := of_decide_eq_true h
    refine vsd (by omega) ?_
    have e : (Int.toNat (q : Int)) = q := Int.toNat_natCast q
    refine And.intro (fun h2 => ?_) (fun h2 => ?_)
    · refine And.intro (congrArg Value.bool ?_) x1
      refine (nameB_no s q (by omega) ?_).symm
      rw [e] at h2
      simp only [sel, Bool.or_eq_true, Bool.and_eq_true, Bool.not_eq_true', Bool.not_eq_false', decide_eq_true_eq, decide_eq_false_iff_not, Bool.or_eq_false_iff, Bool.and_eq_false_iff, Bool.and_false, Bool.or_false, Bool.and_true, Bool.or_true, Bool.true_and, Bool.false_or, Bool.true_or, Bool.false_and, Bool.false_eq_true, Bool.true_eq_false, or_false, false_or, and_true, true_and, Bool.not_true, Bool.not_false] at h2
      exact (letterN_false (by omega)).symm
    · refine vsd (by simp only [inKind]; omega) ?_
      refine Exists.intro (q + 1) ⟨by omega, ⟨rfl, rfl, trivial⟩, trivial, x1, by omega, ?_⟩
      rw [nameTo_succ s q (by omega), hn]
      rw [e] at h2
      simp only [sel, Bool.or_eq_true, Bool.and_eq_true, Bool.not_eq_true', Bool.not_eq_false', decide_eq_true_eq, decide_eq_false_iff_not, Bool.or_eq_false_iff, Bool.and_eq_false_iff, Bool.and_false, Bool.or_false, Bool.and_true, Bool.or_true, Bool.true_and, Bool.false_or, Bool.true_or, Bool.false_and, Bool.false_eq_true, Bool.true_eq_false, or_false, false_or, and_true, true_and, Bool.not_true, Bool.not_false] at h2
      exact (letterN_true (by omega)).symm
  · have hge := of_decide_eq_false h
    have hqs : q = s.size := by omega
    subst hqs
    refine And.intro (congrArg Value.bool ?_) x1
    rw [← nameTo_size, hn, Bool.true_and, Bool.eq_iff_iff]
    simp only [sel, Bool.or_eq_true, Bool.and_eq_true, Bool.not_eq_true', Bool.not_eq_false', decide_eq_true_eq, decide_eq_false_iff_not, Bool.or_eq_false_iff, Bool.and_eq_false_iff, Bool.and_false, Bool.or_false, Bool.and_true, Bool.or_true, Bool.true_and, Bool.false_or, Bool.true_or, Bool.false_and, Bool.false_eq_true, Bool.true_eq_false, or_false, false_or, and_true, true_and, Bool.not_true, Bool.not_false]
    omega
end Go.Proofs.Ytcjkodcamkcljaa

