/-
  What a reader's calls do.
-/
import Derived.Test.YtcjkodcamkcljaaO4
namespace Go.Proofs.Ytcjkodcamkcljaa
open Go Go.RowKit Go.Proofs.Bw
set_option linter.unusedVariables false
set_option linter.unusedSimpArgs false

def Rdr.fail (r : Rdr) (at_ e : Int) : Rdr := if r.bad = 0 ∧ e ≠ 0 then { r with bad := e, spot := at_ } else r
theorem RdrAt.box {w : World} {R : Nat → Prop} {g : Nat} {r r' : Rdr} {A : Option Addr} {c : Nat} {w' : World} (hl : lenOk r.bs.length c) (hr : Rd w R 1 A (bR r.bs)) (hm : Upd g w w') (hR : ¬ R g) (hb : r'.bs = r.bs) (b : Box w' g [.slice A r.bs.length c, .int .i64 r'.at_, .int .i64 r'.bad, .int .i64 r'.spot]) : RdrAt w' R g r' :=
  ⟨A, c, by rw [hb]; exact b, by rw [hb]; exact hl, by rw [hb]; exact hr.mod hm fun k hk e => hR (by rw [← e]; exact hk)⟩
theorem RdrAt.ext {w w' : World} {R : Nat → Prop} {g : Nat} {r : Rdr} (h : RdrAt w R g r) (hx : Ext w w') : RdrAt w' R g r := by
  obtain ⟨A, c, b, hl, hr⟩ := h
  exact ⟨A, c, b.ext hx, hl, hr.ext hx⟩
theorem Fail_runs {R : Nat → Prop} (g : Nat) (r : Rdr) (at_ e : Int) (w : World) (h : RdrAt w R g r) (hR : ¬ R g) :
    Runs Try.prog 23 #[.pointer (some ⟨g, 0, none⟩), .int .i64 at_, .int .i64 e] w fun v w' => v = .tuple #[] ∧ Upd g w w' ∧ RdrAt w' R g (r.fail at_ e) := by
  obtain ⟨A, c, b, hl, hr⟩ := h
  have hh := Holds.one (cs := r.cells A c) b rfl
  refine Runs.of_vc (ρ := [g]) cx_ok [0, 1, 2, 18] [.p 0 0, .v _, .v _] Try.func23 rfl rfl rfl hh ?_
  refine And.intro (fun h => ?_) (fun h => ?_)
  · simp only [sel, Bool.or_eq_true, Bool.and_eq_true, Bool.not_eq_true', Bool.not_eq_false', decide_eq_true_eq, decide_eq_false_iff_not, Bool.or_eq_false_iff, Bool.and_eq_false_iff, Bool.and_false, Bool.or_false, Bool.and_true, Bool.or_true, Bool.true_and, Bool.false_or, Bool.true_or, Bool.false_and, Bool.false_eq_true, Bool.true_eq_false, or_false, false_or, and_true, true_and, Bool.not_true, Bool.not_false] at h
    intro w1 m1 z1 hh1
    intro w2 m2 z2 hh2
    refine ⟨rfl, m1.trans m2, ?_⟩
    have hf : r.fail at_ e = { r with bad := e, spot := at_ } := by unfold Rdr.fail; rw [if_pos (by omega)]
    rw [hf]
    exact RdrAt.box hl hr (m1.trans m2) hR rfl (hh2.box 0 _ rfl)
  · simp only [sel, Bool.or_eq_true, Bool.and_eq_true, Bool.not_eq_true', Bool.not_eq_false', decide_eq_true_eq, decide_eq_false_iff_not, Bool.or_eq_false_iff, Bool.and_eq_false_iff, Bool.and_false, Bool.or_false, Bool.and_true, Bool.or_true, Bool.true_and, Bool.false_or, Bool.true_or, Bool.false_and, Bool.false_eq_true, Bool.true_eq_false, or_false, false_or, and_true, true_and, Bool.not_true, Bool.not_false] at h
    have hf : r.fail at_ e = r := by unfold Rdr.fail; rw [if_neg (by omega)]
    rw [hf]
    exact ⟨rfl, Mod.refl _ _, A, c, b, hl, hr⟩

/-- what a number that is read is: it, how many bytes, which error -/
def numR (bs : List UInt8) (most n0 : Nat) : Nat × Nat × Int := match numOf bs with
  | none => (n0, 0, 3)
  | some (n, s) => if most < n then (n0, 0, 4) else (n, s, 0)
theorem Number1_runs {R : Nat → Prop} (b : Value) (bs : List UInt8) (most n0 gm gn : Nat) (w : World) (hb : RB w R b bs) (hs : bs.length ≤ 1000000) (bm : Box w gm [.int .u64 most]) (bn : Box w gn [.int .u64 n0]) (hne : gm ≠ gn) :
    Runs Try.prog 30 #[b, .pointer (some ⟨gm, 0, none⟩), .pointer (some ⟨gn, 0, none⟩)] w fun v w' => v = .tuple #[.int .i64 (numR bs most n0).2.1, .int .i64 (numR bs most n0).2.2] ∧ Upd gn w w' ∧ Box w' gn [.int .u64 (numR bs most n0).1] := by
  obtain ⟨A0, c0, rfl, hl0, hb'⟩ := hb
  have hh : Holds [gm, gn] [(0, [.v (.int .u64 most)]), (1, [.v (.int .u64 n0)])] w := Holds.two hne (cs := [.v (.int .u64 most)]) (ds := [.v (.int .u64 n0)]) bm bn rfl
  refine Runs.of_vc (ρ := [gm, gn]) cx_ok [0, 1, 2, 4, 5, 6, 7, 8, 15, 19] [.v _, .p 0 0, .p 1 0] Try.func30 rfl rfl rfl hh ?_
  refine vcS (number_runs _ bs _ ⟨A0, c0, rfl, hl0, hb'⟩ hs) hh fun w1 x1 hh1 => ?_
  cases hn : numOf bs with
  | none =>
    refine And.intro (fun h => ?_) (fun h => ?_)
    · have e : numR bs most n0 = (n0, 0, 3) := by unfold numR; rw [hn]
      rw [e]
      exact ⟨rfl, x1.toUpd, bn.ext x1⟩
    · simp at h
  | some p =>
    obtain ⟨n, s⟩ := p
    refine And.intro (fun h => ?_) (fun h => ?_)
    · simp at h
    · refine And.intro (fun h2 => ?_) (fun h2 => ?_)
      · have hlt := of_decide_eq_true h2
        have e : numR bs most n0 = (n0, 0, 4) := by unfold numR; rw [hn]; simp only; rw [if_pos (by omega)]
        rw [e]
        exact ⟨rfl, x1.toUpd, bn.ext x1⟩
      · have hlt := of_decide_eq_false h2
        have e : numR bs most n0 = (n, s, 0) := by unfold numR; rw [hn]; simp only; rw [if_neg (by omega)]
        rw [e]
        intro w2 m2 z2 hh2
        exact ⟨rfl, x1.toUpd.trans m2, hh2.box 1 _ rfl⟩
end Go.Proofs.Ytcjkodcamkcljaa

