import Derived.Test.YtmibjillclfogaaDoorLvlEq
import Derived.Test.YtmibjillclfogaaDoorDraw
import Derived.Test.YtmibjillclfogaaDoorSpec
import Derived.Test.YtmibjillclfogaaDoorOwn
import Derived.Test.YtmibjillclfogaaDoorRows
namespace Go.Proofs.YtmibjillclfogaaDoor
open Go Go.RowKit Go.Proofs.Bw
set_option linter.unusedVariables false
set_option linter.unusedSimpArgs false
theorem mixed : Tryd.prog.follows .mixedOrders = true := by kernel_rfl
theorem eqL_in (a b : L) (w : World) : (Op.equalIn 10000 74 (.agg a.cells.toArray) (.agg b.cells.toArray)).run Tryd.prog w = .ok (a.same b) w :=
  run_equalL 9997 74 72 3 Tryd.underlying74 rfl ⟨by decide, rfl, rfl⟩ ⟨by decide, rfl, rfl⟩ Tryd.stoodInHeld74 Tryd.underlying72 Tryd.sizeOf3 Tryd.isAgg3 Tryd.isAgg72 Tryd.sizeOf72 Tryd.underlying3 w a b
section
variable {e : Env} {w : World} {K : Value → World → Prop} {d : Option Tmp} {t : TypeId} {pos : String} {af : Array Edge} {g : Option (Nat × Bool)} {x y : Operand} {yt : TypeId} {a b : L}
theorem OpT.eqlL (hx : evalO e x = some (.agg a.cells.toArray)) (hy : evalO e y = some (.agg b.cells.toArray)) (h : K (.bool (a.same b)) w) : OpT Tryd.prog e w ⟨d, .binOp .eql 74 x y yt, t, pos, af, g⟩ K :=
  Bw.OpT.value (fun ρ hρ => by simp [execOp, hρ x _ hx, hρ y _ hy, run_eqGuard_agg w _ _ _ _ _ _ Tryd.eqGuardType74, run_eql_struct, eqL_in]) h
theorem OpT.neqL (hx : evalO e x = some (.agg a.cells.toArray)) (hy : evalO e y = some (.agg b.cells.toArray)) (h : K (.bool (!a.same b)) w) : OpT Tryd.prog e w ⟨d, .binOp .neq 74 x y yt, t, pos, af, g⟩ K :=
  Bw.OpT.value (v := .bool (!a.same b)) (fun ρ hρ => by simp [execOp, hρ x _ hx, hρ y _ hy, run_eqGuard_agg w _ _ _ _ _ _ Tryd.eqGuardType74, run_neq_struct, eqL_in]) h
end
theorem places33 : ∃ fs, Tryd.prog.underlying 33 = some (.struct fs) ∧ PlacesAre Tryd.prog fs #[(0, 1), (1, 1)] := ⟨_, Tryd.underlying33, fun w => by kernel_rfl⟩
theorem places36 : ∃ fs, Tryd.prog.underlying 36 = some (.struct fs) ∧ PlacesAre Tryd.prog fs #[(0, 1), (1, 1), (2, 1), (3, 1), (4, 1)] := ⟨_, Tryd.underlying36, fun w => by kernel_rfl⟩
theorem places53 : ∃ fs, Tryd.prog.underlying 53 = some (.struct fs) ∧ PlacesAre Tryd.prog fs #[(0, 1), (1, 1), (2, 1)] := ⟨_, Tryd.underlying53, fun w => by kernel_rfl⟩
theorem places62 : ∃ fs, Tryd.prog.underlying 62 = some (.struct fs) ∧ PlacesAre Tryd.prog fs #[(0, 5), (5, 5)] := ⟨_, Tryd.underlying62, fun w => by kernel_rfl⟩
theorem info5 : Tryd.prog.info? 5 = some Tryd.t5 ∧ Tryd.t5.zero = some (Tryd.t5.zero.get rfl) ∧ Tryd.t5.size = 1 ∧ Tryd.t5.bytes = 1 ∧ (Tryd.t5.zero.get rfl).cells.size = 1 := ⟨by kernel_rfl, rfl, rfl, rfl, rfl⟩
theorem info38 : Tryd.prog.info? 38 = some Tryd.t38 ∧ Tryd.t38.zero = some (Tryd.t38.zero.get rfl) ∧ Tryd.t38.size = 3 ∧ Tryd.t38.bytes = 3 ∧ (Tryd.t38.zero.get rfl).cells.size = 3 := ⟨by kernel_rfl, rfl, rfl, rfl, rfl⟩
theorem info55 : Tryd.prog.info? 55 = some Tryd.t55 ∧ Tryd.t55.zero = some (Tryd.t55.zero.get rfl) ∧ Tryd.t55.size = 2 ∧ Tryd.t55.bytes = 32 ∧ (Tryd.t55.zero.get rfl).cells.size = 2 := ⟨by kernel_rfl, rfl, rfl, rfl, rfl⟩
theorem info62 : Tryd.prog.info? 62 = some Tryd.t62 ∧ Tryd.t62.zero = some (Tryd.t62.zero.get rfl) ∧ Tryd.t62.size = 10 ∧ Tryd.t62.bytes = 160 ∧ (Tryd.t62.zero.get rfl).cells.size = 10 := ⟨by kernel_rfl, rfl, rfl, rfl, rfl⟩
end Go.Proofs.YtmibjillclfogaaDoor

