/-
  The law CacheEldest.
-/
import Derived.Test.YtmibjillclfogaaDoorC12
namespace Go.Proofs.YtmibjillclfogaaDoor
open Go Go.RowKit Go.Proofs.Bw
set_option linter.unusedVariables false
set_option linter.unusedSimpArgs false

set_option maxRecDepth 20000 in
theorem bit_runs (b : Bool) (w : World) : Runs Tryd.prog 17 #[.bool b] w fun v w' => v = .int .i64 (if b then 1 else 0) ∧ Ext w w' := by
  refine Runs.of_vc cx_ok [0, 2, 3] [.v _] Tryd.func17 rfl rfl rfl (Holds.nil _) ?_
  refine And.intro (fun h => ?_) (fun h => ?_)
  · rw [h]; exact ⟨rfl, Ext.refl _⟩
  · rw [h]; exact ⟨rfl, Ext.refl _⟩
theorem Pp_eq (i : Nat) : pv (2 * (i : Int)) (2 * (i : Int) + 1) = Pp i := by unfold Pp; congr 1 <;> omega
theorem Pp_eq' (i : Nat) (h : i < 500000) : pv (2 * (i : Int) + 1) (2 * (i : Int)) = Pp i := by rw [← Pp_swap i h]; congr 1 <;> omega
set_option maxRecDepth 20000 in
theorem CacheEldest_runs (m n ag : Nat) (hm : m < 256) (hn : n < 256) (hag : ag < 256) (w : World) (hT : Tb w.heap.size w) :
    Runs Tryd.prog 6 #[.int .u8 m, .int .u8 n, .int .u8 ag] w fun v w' => v = .bool true ∧ Ext w w' := by
  refine Runs.of_vc cx_ok [0, 1, 2, 6, 7, 8, 9, 10, 11, 12, 13, 14, 15, 30, 36, 50, 67, 77, 128, 132, 154] [.v _, .v _, .v _] Tryd.func6 rfl rfl rfl (Holds.nil _) ?_
  obtain ⟨sz, hs⟩ : ∃ sz : Nat, (1 + (m : Int) % 60) = sz := ⟨1 + m % 60, by omega⟩
  have hs1 : 1 ≤ sz ∧ sz ≤ 60 := by omega
  obtain ⟨k, hk⟩ : ∃ k : Nat, (n : Int) % 120 = k := ⟨n % 120, by omega⟩
  have hk1 : k < 120 := by omega
  refine vsd (by simp only [inKind]; omega) ?_
  refine vsd (by omega) ?_
  refine vsd (by simp only [inKind]; omega) ?_
  refine vcE (New_CS (w0 := w) (1 + (m : Int) % 60) (by omega) (Ext.refl w)) (Holds.nil _) ?_
  rintro _ w1 x1 hh1 ⟨g, rfl, c1, hg⟩
  rw [show (1 + (m : Int) % 60).toNat = sz by omega] at c1
  refine And.intro (fun h => by simp [sel] at h) (fun _ => ?_)
  refine vsd (by simp only [inKind]; omega) ?_
  refine vsd (by omega) ?_
  refine vLoop_mk (σ := Nat) (fun i => [(2, .v (.int .u8 ag)), (7, .v (.int .i64 sz)), (8, .v (.pointer (some ⟨g, 0, none⟩))), (10, .v (.int .i64 k)), (11, .v (.int .i64 i))]) (fun _ => [])
    (fun i w' => CS w g ⟨sz, Dl sz (Pps 0 i)⟩ w' ∧ i ≤ k) (fun i => k - i) 0 (fun _ => ⟨rfl, rfl⟩)
    ⟨⟨rfl, by rw [← hs]; rfl, rfl, by rw [← hk]; rfl, rfl, trivial⟩, trivial, by simpa [Pps, Dl] using c1, Nat.zero_le _⟩ ?_
  rintro i w2 hh2 ⟨c2, hi⟩
  refine And.intro (fun h => ?_) (fun h => ?_)
  · have hik := of_decide_eq_true h
    refine vsd (by simp only [inKind]; omega) ?_
    refine vcS (lV_runs _ w2) (Holds.nil _) fun w3 x3 hh3 => ?_
    refine vsd (by simp only [inKind]; omega) ?_
    refine vsd (by simp only [inKind]; omega) ?_
    refine vcS (lV_runs _ w3) (Holds.nil _) fun w4 x4 hh4 => ?_
    refine (Put_CS hT (c2.ext (x3.trans x4)) (2 * (i : Int)) (2 * (i : Int) + 1) (by omega) (by omega)).mono ?_
    rintro _ w5 ⟨rfl, c5⟩
    refine Lands.v (Holds.nil _) ?_
    simp only at c5
    rw [Pp_eq, eld_put hs1.1 (by omega)] at c5
    refine vsd (by simp only [inKind]; omega) ?_
    exact Exists.intro (i + 1) ⟨by omega, ⟨rfl, rfl, rfl, rfl, rfl, trivial⟩, trivial, c5, by omega⟩
  obtain rfl : i = k := by have := of_decide_eq_false h; omega
  refine vLoop_mk (σ := Nat) (fun j => [(2, .v (.int .u8 ag)), (7, .v (.int .i64 sz)), (8, .v (.pointer (some ⟨g, 0, none⟩))), (10, .v (.int .i64 i)), (12, .v (.int .i64 j))]) (fun _ => [])
    (fun j w' => CS w g ⟨sz, Dl sz (Pps 0 i)⟩ w' ∧ j ≤ i) (fun j => i - j) 0 (fun _ => ⟨rfl, rfl⟩)
    ⟨⟨rfl, rfl, rfl, rfl, rfl, trivial⟩, trivial, c2, Nat.zero_le _⟩ ?_
  rintro j w3 hh3 ⟨c3, hj⟩
  refine And.intro (fun h => ?_) (fun h => ?_)
  · have hjk := of_decide_eq_true h
    refine vsd (by simp only [inKind]; omega) ?_
    refine vsd (by simp only [inKind]; omega) ?_
    refine vcS (lV_runs _ w3) (Holds.nil _) fun w4 x4 hh4 => ?_
    refine vsd (by simp only [inKind]; omega) ?_
    refine vcS (lV_runs _ w4) (Holds.nil _) fun w5 x5 hh5 => ?_
    refine vcS (Has_CS hT (c3.ext (x4.trans x5)) (2 * (j : Int) + 1) (2 * (j : Int)) (by omega) (by omega)) (Holds.nil _) fun w6 x6 hh6 => ?_
    refine vsd (by simp only [inKind]; omega) ?_
    have hb : pv (2 * (j : Int) + 1) (2 * (j : Int)) ∈ Dl sz (Pps 0 i) ↔ i ≤ j + sz := by
      rw [Pp_eq' j (by omega)]; exact eld_has (by omega) (by omega)
    refine And.intro (fun h => ?_) (fun h => ?_)
    · exfalso
      have e : decide (pv (2 * (j : Int) + 1) (2 * (j : Int)) ∈ Dl sz (Pps 0 i)) = decide ((i : Int) - sz ≤ j) := by rw [decide_eq_decide, hb]; omega
      simp only [e] at h
      simp at h
    · refine vsd (by simp only [inKind]; omega) ?_
      exact Exists.intro (j + 1) ⟨by omega, ⟨rfl, rfl, rfl, rfl, rfl, trivial⟩, trivial, c3.ext ((x4.trans x5).trans x6), by omega⟩
  clear h
  have hL : (Dl sz (Pps 0 i)).length = min sz i := by rw [Dl_length, Pps_length]
  have cL := Len_CS c3
  simp only [hL] at cL
  refine vcS cL (Holds.nil _) fun w4 x4 hh4 => ?_
  have hmin : ((if (sz : Int) < i then (sz : Int) else i)) = ((min sz i : Nat) : Int) := by split <;> omega
  have c4 := c3.ext x4
  refine And.intro (fun h => ?_) (fun h => ?_)
  · have h0 : i = 0 := by
      simp only [sel, Bool.or_eq_true, Bool.and_eq_true, Bool.not_eq_true', Bool.not_eq_false', decide_eq_true_eq, decide_eq_false_iff_not, Bool.or_eq_false_iff, Bool.and_eq_false_iff, Bool.and_false, Bool.or_false, Bool.and_true, Bool.or_true, Bool.true_and, Bool.false_or, Bool.true_or, Bool.false_and, Bool.false_eq_true, Bool.true_eq_false, or_false, false_or, and_true, true_and, Bool.not_true, Bool.not_false, sel] at h
      split at h <;> omega
    subst h0
    have cL := Len_CS c4
    simp only [hL, Nat.min_zero] at cL
    refine vcS cL (Holds.nil _) fun w5 x5 hh5 => ?_
    refine vyes rfl ?_
    refine vcS (works_CS hT (c4.ext x5).ex) (Holds.nil _) fun w6 x6 hh6 => ?_
    exact ⟨rfl, ((c4.ext x5).ext x6).ex⟩
  have hi0 : 0 < i := by
    simp only [sel, Bool.or_eq_true, Bool.and_eq_true, Bool.not_eq_true', Bool.not_eq_false', decide_eq_true_eq, decide_eq_false_iff_not, Bool.or_eq_false_iff, Bool.and_eq_false_iff, Bool.and_false, Bool.or_false, Bool.and_true, Bool.or_true, Bool.true_and, Bool.false_or, Bool.true_or, Bool.false_and, Bool.false_eq_true, Bool.true_eq_false, or_false, false_or, and_true, true_and, Bool.not_true, Bool.not_false, sel] at h
    split at h <;> omega
  clear h
  refine vsd (by simp only [inKind]; omega) ?_
  refine vsd (by omega) ?_
  obtain ⟨at_, hat⟩ : ∃ a : Nat, (ag : Int) % (i : Int) = a := ⟨ag % i, by rw [Int.natCast_emod]⟩
  have hat1 : at_ < i := by have := Int.emod_lt_of_pos (ag : Int) (show (0 : Int) < i by omega); omega
  rw [hat]
  refine vsd (by simp only [inKind]; omega) ?_
  refine vsd (by simp only [inKind]; omega) ?_
  refine vsd (by simp only [inKind]; omega) ?_
  refine vcS (lV_runs _ w4) (Holds.nil _) fun w5 x5 hh5 => ?_
  refine vsd (by simp only [inKind]; omega) ?_
  refine vcS (lV_runs _ w5) (Holds.nil _) fun w6 x6 hh6 => ?_
  refine (Put_CS hT (c4.ext (x5.trans x6)) (2 * (at_ : Int) + 1) (2 * (at_ : Int)) (by omega) (by omega)).mono ?_
  rintro _ w7 ⟨rfl, c7⟩
  refine Lands.v (Holds.nil _) ?_
  simp only at c7
  rw [Pp_eq' at_ (by omega), eld_again hs1.1 (by omega) hat1] at c7
  have hL2 : (Dl sz (eldL i at_ 0)).length = min sz i := by rw [Dl_length, eldL_length (by omega) hat1]; simp
  have cL := Len_CS c7
  simp only [hL2] at cL
  refine vcS cL (Holds.nil _) fun w8 x8 hh8 => ?_
  obtain ⟨bt, hbt, cb⟩ : ∃ bt : Nat, bt = (if i ≤ at_ + sz then 0 else 1) ∧ Runs Tryd.prog 17 #[.bool (!decide ((i : Int) - sz ≤ at_))] w8 fun v w' => v = .int .i64 bt ∧ Ext w8 w' := by
    refine ⟨_, rfl, ?_⟩
    have := bit_runs (!decide ((i : Int) - sz ≤ at_)) w8
    by_cases hc : i ≤ at_ + sz
    · rw [show decide ((i : Int) - sz ≤ at_) = true from decide_eq_true (by omega)] at this ⊢
      rw [if_pos hc]; exact this
    · rw [show decide ((i : Int) - sz ≤ at_) = false from decide_eq_false (by omega)] at this ⊢
      rw [if_neg hc]; exact this
  refine vcS cb (Holds.nil _) fun w9 x9 hh9 => ?_
  have hbt1 : bt ≤ 1 ∧ (bt = 1 → sz < i) := by split at hbt <;> omega
  clear hbt cb
  refine vsd (by simp only [inKind]; split <;> omega) ?_
  have c9 := (c7.ext x8).ext x9
  have hc : (!decide (((min sz i : Nat) : Int) = if ((i : Int) + if (bt : Int) < 1 then (bt : Int) else 1) < sz then ((i : Int) + if (bt : Int) < 1 then (bt : Int) else 1) else sz)) = false := by
    simp only [Bool.not_eq_false', decide_eq_true_eq]
    split <;> split at * <;> omega
  have hc2 := congrArg (fun b => !b) hc
  simp only [Bool.not_false] at hc2
  refine And.intro (fun _ => by simp only [inKind]; omega) ?_
  refine vyes hc2 ?_
  refine vcS (lV_runs _ w9) (Holds.nil _) fun w10 x10 hh10 => ?_
  refine And.intro (fun _ => by simp only [inKind]; omega) ?_
  refine And.intro (fun _ => by simp only [inKind]; omega) ?_
  refine vyes hc2 ?_
  refine vcS (lV_runs _ w10) (Holds.nil _) fun w11 x11 hh11 => ?_
  have c11 := c9.ext (x10.trans x11)
  have cH := Has_CS hT c11 (2 * (at_ : Int)) (2 * (at_ : Int) + 1) (by omega) (by omega)
  rw [Pp_eq, decide_eq_true (eld_stay (by omega))] at cH
  refine vyes hc2 ?_
  refine vcS cH (Holds.nil _) fun w12 x12 hh12 => ?_
  have c12 := c11.ext x12
  refine And.intro (fun h => by rw [hc] at h; simp [sel] at h) (fun _ => ?_)
  refine vLoop_mk (σ := Nat) (fun j => [(7, .v (.int .i64 sz)), (8, .v (.pointer (some ⟨g, 0, none⟩))), (13, .v (.int .i64 at_)), (15, .v (.int .i64 j))]) (fun _ => [])
    (fun j w' => CS w g ⟨sz, Dl sz (eldL i at_ j)⟩ w' ∧ j + 1 ≤ sz) (fun j => sz - j) 0 (fun _ => ⟨rfl, rfl⟩)
    ⟨⟨rfl, rfl, rfl, rfl, trivial⟩, trivial, c12, by omega⟩ ?_
  rintro j w13 hh13 ⟨c13, hj2⟩
  refine vsd (by simp only [inKind]; omega) ?_
  refine And.intro (fun h => ?_) (fun h => ?_)
  · have hjk := of_decide_eq_true h
    refine vsd (by simp only [inKind]; omega) ?_
    refine vsd (by simp only [inKind]; omega) ?_
    refine vcS (lV_runs _ w13) (Holds.nil _) fun w14 x14 hh14 => ?_
    refine vsd (by simp only [inKind]; omega) ?_
    refine vsd (by simp only [inKind]; omega) ?_
    refine vcS (lV_runs _ w14) (Holds.nil _) fun w15 x15 hh15 => ?_
    refine (Put_CS hT (c13.ext (x14.trans x15)) (1000 + 2 * (j : Int)) (1001 + 2 * (j : Int)) (by omega) (by omega)).mono ?_
    rintro _ w16 ⟨rfl, c16⟩
    refine Lands.v (Holds.nil _) ?_
    simp only at c16
    rw [show pv (1000 + 2 * (j : Int)) (1001 + 2 * (j : Int)) = Pp (500 + j) by unfold Pp; congr 1 <;> omega, eld_put2 hs1.1 (by omega) hat1 (by omega)] at c16
    refine vsd (by simp only [inKind]; omega) ?_
    exact Exists.intro (j + 1) ⟨by omega, ⟨rfl, rfl, rfl, rfl, trivial⟩, trivial, c16, by omega⟩
  have hjk : j = sz - 1 := by have := of_decide_eq_false h; omega
  clear h
  refine vsd (by simp only [inKind]; omega) ?_
  refine vcS (lV_runs _ w13) (Holds.nil _) fun w14 x14 hh14 => ?_
  refine vsd (by simp only [inKind]; omega) ?_
  refine vsd (by simp only [inKind]; omega) ?_
  refine vcS (lV_runs _ w14) (Holds.nil _) fun w15 x15 hh15 => ?_
  have c15 := c13.ext (x14.trans x15)
  have cH := Has_CS hT c15 (2 * (at_ : Int)) (2 * (at_ : Int) + 1) (by omega) (by omega)
  rw [Pp_eq, decide_eq_true (eld_stay (by omega))] at cH
  refine vcS cH (Holds.nil _) fun w16 x16 hh16 => ?_
  refine And.intro (fun h => by cases h) (fun _ => ?_)
  refine vcS (lV_runs _ w16) (Holds.nil _) fun w17 x17 hh17 => ?_
  refine vcS (lV_runs _ w17) (Holds.nil _) fun w18 x18 hh18 => ?_
  refine (Put_CS hT (c15.ext (x16.trans (x17.trans x18))) 5000 5001 (by omega) (by omega)).mono ?_
  rintro _ w19 ⟨rfl, c19⟩
  refine Lands.v (Holds.nil _) ?_
  simp only at c19
  rw [show pv 5000 5001 = Pp 2500 from rfl, hjk] at c19
  refine vsd (by simp only [inKind]; omega) ?_
  refine vcS (lV_runs _ w19) (Holds.nil _) fun w20 x20 hh20 => ?_
  refine vsd (by simp only [inKind]; omega) ?_
  refine vsd (by simp only [inKind]; omega) ?_
  refine vcS (lV_runs _ w20) (Holds.nil _) fun w21 x21 hh21 => ?_
  have c21 := c19.ext (x20.trans x21)
  have cH := Has_CS hT c21 (2 * (at_ : Int)) (2 * (at_ : Int) + 1) (by omega) (by omega)
  rw [Pp_eq, decide_eq_false (eld_gone hs1.1 (by omega) (by omega) hat1)] at cH
  refine vcS cH (Holds.nil _) fun w22 x22 hh22 => ?_
  refine vyes rfl ?_
  refine vcS (works_CS hT (c21.ext x22).ex) (Holds.nil _) fun w23 x23 hh23 => ?_
  exact ⟨rfl, ((c21.ext x22).ext x23).ex⟩
end Go.Proofs.YtmibjillclfogaaDoor

