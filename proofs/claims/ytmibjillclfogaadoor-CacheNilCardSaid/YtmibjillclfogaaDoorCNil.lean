/-
  The law CacheNil.
-/
import Derived.Test.YtmibjillclfogaaDoorC10
namespace Go.Proofs.YtmibjillclfogaaDoor
open Go Go.RowKit Go.Proofs.Bw
set_option linter.unusedVariables false
set_option linter.unusedSimpArgs false

set_option maxRecDepth 20000 in
theorem CacheNil_runs (t : T) (cs : List Value) (w : World) {R : Nat → Prop} (hv : VT w R cs t) (hT : Tb w.heap.size w) :
    Runs Tryd.prog 5 #[.agg cs.toArray] w fun v w' => v = .bool true ∧ Ext w w' := by
  have hv0 := hv
  obtain ⟨k, n, s, ls, ts, la, lc, ta, tc, ea, rfl, -⟩ := hv.inv
  refine Runs.of_vc (ρ := []) cx_ok [0, 1, 2, 3, 5] [.a [.v (.int .u8 k), .v (.int .i64 n), .v (.string s), .v (.slice la ls.length lc), .v (.slice ta ts.length tc)]] Tryd.func5 rfl rfl rfl (Holds.nil w) ?_
  intro g1 w1 e1 x1 z1 hh1
  refine vcS (rDeep_runs t _ w1 R (hv0.ext x1)) hh1 fun w2 x2 hh2 => ?_
  have y2 := x1.trans x2
  refine And.intro (fun h => ?_) (fun h => ?_)
  · refine vcS (works_runs w2 (hT.ext y2 (Nat.le_refl _)) y2.size) hh2 fun w3 x3 hh3 => ?_
    exact ⟨rfl, y2.trans x3⟩
  · refine vcS (PutN_runs t t _ _ w2 R (hv0.ext y2) (hv0.ext y2) (hT.ext y2 (Nat.le_refl _)) y2.size) hh2 fun w3 x3 hh3 => ?_
    have y3 := y2.trans x3
    refine vcS (HasN_runs t t _ _ w3 R (hv0.ext y3) (hv0.ext y3) (hT.ext y3 (Nat.le_refl _)) y3.size) hh3 fun w4 x4 hh4 => ?_
    refine vyes rfl ?_
    refine vcS (LenN_runs w4) hh4 fun w5 x5 hh5 => ?_
    have y5 := y3.trans (x4.trans x5)
    refine vyes rfl ?_
    refine vcS (works_runs w5 (hT.ext y5 (Nat.le_refl _)) y5.size) hh5 fun w6 x6 hh6 => ?_
    exact ⟨rfl, y5.trans x6⟩
end Go.Proofs.YtmibjillclfogaaDoor

