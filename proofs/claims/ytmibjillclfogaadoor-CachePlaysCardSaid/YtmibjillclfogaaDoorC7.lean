/-
  Has and Put.
-/
import Derived.Test.YtmibjillclfogaaDoorC6
namespace Go.Proofs.YtmibjillclfogaaDoor
open Go Go.RowKit Go.Proofs.Bw
set_option linter.unusedVariables false
set_option linter.unusedSimpArgs false

set_option maxRecDepth 20000 in
theorem Has_runs {B lo : Nat} (g : Nat) (q : Ch) (own : Nat → Prop) (a b : T) (ca cb : List Value) (w : World) (R : Nat → Prop) (h : ChAt w lo g q own) (hva : VT w R ca a) (hvb : VT w R cb b) (hT : Tb B w) (hB : B ≤ w.heap.size) :
    Runs Tryd.prog 10 #[.pointer (some ⟨g, 0, none⟩), .agg ca.toArray, .agg cb.toArray] w fun v w' => v = .bool (mayT a && mayT b && decide (prT a b ∈ q.l)) ∧ Ext w w' := by
  obtain ⟨A, c, m, ents, bx, o, hm, kt, r⟩ := h
  obtain ⟨k, n, s, ls, ts, la, lc, ta, tc, ea, rfl, -⟩ := hva.inv
  obtain ⟨k', n', s', ls', ts', la', lc', ta', tc', eb, rfl, -⟩ := hvb.inv
  have hh := Holds.one (g := g) (cs := [.v (.int .i64 q.most), .v (.slice A q.l.length c), .v (.map (some m))]) bx rfl
  refine Runs.of_vc (ρ := [g]) cx_ok [0, 1, 2, 4, 5, 6, 7, 8] [.p 0 0, .a [.v (.int .u8 k), .v (.int .i64 n), .v (.string s), .v (.slice la ls.length lc), .v (.slice ta ts.length tc)], .a [.v (.int .u8 k'), .v (.int .i64 n'), .v (.string s'), .v (.slice la' ls'.length lc'), .v (.slice ta' ts'.length tc')]] Tryd.func10 rfl rfl rfl hh ?_
  intro g1 w1 e1 x1 z1 hh1
  intro g2 w2 e2 x2 z2 hh2
  have y2 := x1.trans x2
  refine vcS (of_runs a b _ _ w2 R (hva.ext y2) (hvb.ext y2) (hT.ext y2 hB) (by have := y2.size; omega)) hh2 fun w3 x3 hh3 => ?_
  intro g3 w4 e4 x4 z4 hh4
  intro w5 m5 z5 hh5
  replace m5 : Upd g3 w4 w5 := m5
  have y5 : Ext w w5 := ((y2.trans x3).trans x4).upd m5 (by have := (y2.trans x3).size; omega)
  refine vDrw_mk [] [0, 1, 2, 3, 4, 5, 6, 7, 8, 9, 10, 11, 12, 13] rfl fun w6 x6 hh6 => ?_
  have y6 := y5.trans x6
  refine Exists.intro (.bool (decide (prT a b ∈ q.l))) (And.intro (fun w' x hh _ => OpT.lookup Tryd.underlying50 keyP Tryd.zeroValue4 rfl rfl (hm.ext (y6.trans x)) ⟨kt.get _, rfl⟩) ?_)
  refine ⟨congrArg Value.bool ?_, y6⟩
  cases h1 : mayT a <;> cases h2 : mayT b <;> simp [sel, h1, h2]
set_option maxRecDepth 20000 in
theorem HasN_runs {B : Nat} (a b : T) (ca cb : List Value) (w : World) (R : Nat → Prop) (hva : VT w R ca a) (hvb : VT w R cb b) (hT : Tb B w) (hB : B ≤ w.heap.size) :
    Runs Tryd.prog 10 #[.pointer none, .agg ca.toArray, .agg cb.toArray] w fun v w' => v = .bool false ∧ Ext w w' := by
  obtain ⟨k, n, s, ls, ts, la, lc, ta, tc, ea, rfl, -⟩ := hva.inv
  obtain ⟨k', n', s', ls', ts', la', lc', ta', tc', eb, rfl, -⟩ := hvb.inv
  refine Runs.of_vc (ρ := []) cx_ok [0, 1, 2, 4, 5, 6, 7, 8] [.v (.pointer none), .a [.v (.int .u8 k), .v (.int .i64 n), .v (.string s), .v (.slice la ls.length lc), .v (.slice ta ts.length tc)], .a [.v (.int .u8 k'), .v (.int .i64 n'), .v (.string s'), .v (.slice la' ls'.length lc'), .v (.slice ta' ts'.length tc')]] Tryd.func10 rfl rfl rfl (Holds.nil w) ?_
  intro g1 w1 e1 x1 z1 hh1
  intro g2 w2 e2 x2 z2 hh2
  have y2 := x1.trans x2
  refine vcS (of_runs a b _ _ w2 R (hva.ext y2) (hvb.ext y2) (hT.ext y2 hB) (by have := y2.size; omega)) hh2 fun w3 x3 hh3 => ?_
  intro g3 w4 e4 x4 z4 hh4
  intro w5 m5 z5 hh5
  replace m5 : Upd g3 w4 w5 := m5
  have y5 : Ext w w5 := ((y2.trans x3).trans x4).upd m5 (by have := (y2.trans x3).size; omega)
  refine vDrw_mk [] [0, 1, 2, 3, 4, 5, 6, 7, 8, 9, 10, 11, 12, 13] rfl fun w6 x6 hh6 => ?_
  have y6 := y5.trans x6
  refine Exists.intro undef (And.intro (fun w' x hh h => by cases h) ?_)
  refine Exists.intro undef (And.intro (fun w' x hh h => by cases h) ?_)
  refine Exists.intro undef (And.intro (fun w' x hh h => by cases h) ?_)
  refine Exists.intro (.bool false) (And.intro (fun w' x hh h => by cases h) ?_)
  exact ⟨rfl, y6⟩
end Go.Proofs.YtmibjillclfogaaDoor

