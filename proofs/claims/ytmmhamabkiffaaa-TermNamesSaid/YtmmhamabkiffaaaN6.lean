/-
  Are two rows of names the same?
-/
import Derived.Test.YtmmhamabkiffaaaN5
namespace Go.Proofs.Ytmmhamabkiffaaa
open Go Go.RowKit Go.Proofs.Bw
set_option linter.unusedVariables false
set_option linter.unusedSimpArgs false

theorem zR_get {l : List (List UInt8)} {i : Nat} (h : i < l.length) : (zR l)[i]? = some [encStr l[i]] := by simp [zR, h]
theorem str_inj (a b : List UInt8) : (⟨a.toArray⟩ : ByteArray) = ⟨b.toArray⟩ ↔ a = b := by
  constructor
  · intro h; injection h with h; exact Array.mk.inj h
  · intro h; rw [h]
theorem strings_runs {R R' : Nat → Prop} (A B : Option Addr) (c d : Nat) (a b : List (List UInt8)) (w : World) (ha : Rd w R 1 A (zR a)) (hb : Rd w R' 1 B (zR b)) (h1 : a.length ≤ 1000000) (h2 : b.length ≤ 1000000) :
    Runs Try.prog 22 #[.slice A a.length c, .slice B b.length d] w fun v w' => v = .bool (decide (a = b)) ∧ Ext w w' := by
  refine Runs.of_vc cx_ok [0, 1, 4, 5, 10, 14, 25] [.v _, .v _] Try.func22 rfl rfl rfl (Holds.nil _) ?_
  refine And.intro (fun h => ?_) (fun h => ?_)
  · have h0 : a.length ≠ b.length := by simp at h; omega
    rw [decide_eq_false fun e => h0 (by rw [e])]
    exact ⟨rfl, Ext.refl _⟩
  have h0 : a.length = b.length := by simp at h; omega
  refine vLoop_mk (σ := Nat) (fun q => [(0, .v (.slice A a.length c)), (1, .v (.slice B b.length d)), (5, .v (.int .i64 q))]) (fun _ => []) (fun q w' => Ext w w' ∧ q ≤ a.length ∧ a.take q = b.take q) (fun q => a.length - q) 0 (fun _ => ⟨rfl, rfl⟩)
    ⟨⟨rfl, rfl, rfl, trivial⟩, trivial, Ext.refl _, Nat.zero_le _, rfl⟩ ?_
  rintro i w1 hh ⟨x1, hi, he⟩
  refine And.intro (fun h3 => ?_) (fun h3 => ?_)
  · have hlt := of_decide_eq_true h3
    have hia : i < a.length := by omega
    have hib : i < b.length := by omega
    refine vDrw_mk [] [0, 1, 2, 3, 4, 5, 6, 7, 8] rfl fun w2 x2 hh2 => ?_
    obtain ⟨a1, e1, _, r1⟩ := (ha.ext (x1.trans x2)).at (zR_get hia)
    obtain ⟨b1, e2, _, r2⟩ := (hb.ext (x1.trans x2)).at (zR_get hib)
    refine Exists.intro (.pointer (some (a1.add (i * 1)))) (And.intro (fun w' x hh => OpT.indexAddr Try.underlying40 Try.sizeOf9 rfl rfl e1 (by omega) ⟨rfl, rfl⟩) ?_)
    refine Exists.intro (encStr a[i]) (And.intro (fun w' x hh => OpT.load Try.isAgg9 rfl ((r1.ext x).cell 0 rfl) ⟨rfl, rfl⟩) ?_)
    refine Exists.intro (.pointer (some (b1.add (i * 1)))) (And.intro (fun w' x hh => OpT.indexAddr Try.underlying40 Try.sizeOf9 rfl rfl e2 (by omega) ⟨rfl, rfl⟩) ?_)
    refine Exists.intro (encStr b[i]) (And.intro (fun w' x hh => OpT.load Try.isAgg9 rfl ((r2.ext x).cell 0 rfl) ⟨rfl, rfl⟩) ?_)
    refine And.intro (fun h4 => ?_) (fun h4 => ?_)
    · have hne : a[i] ≠ b[i] := fun e => by rw [e] at h4; simp at h4
      rw [decide_eq_false fun e => hne (by subst e; rfl)]
      exact ⟨rfl, x1.trans x2⟩
    · have heq : a[i] = b[i] := (str_inj _ _).1 (by simpa using h4)
      refine vsd (by simp only [inKind]; omega) ?_
      exact Exists.intro (i + 1) ⟨by omega, ⟨rfl, rfl, rfl, trivial⟩, trivial, x1.trans x2, hia, by rw [take_snoc a i hia, take_snoc b i hib, he, heq]⟩
  · have hge := of_decide_eq_false h3
    have hil : i = a.length := by omega
    subst hil
    rw [List.take_length, h0, List.take_length] at he
    rw [decide_eq_true he]
    exact ⟨rfl, x1⟩
end Go.Proofs.Ytmmhamabkiffaaa

