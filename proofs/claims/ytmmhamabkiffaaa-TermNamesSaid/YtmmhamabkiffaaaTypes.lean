import Derived.Test.YtmmhamabkiffaaaLvlEq
import Derived.Test.YtmmhamabkiffaaaDraw
import Derived.Test.YtmmhamabkiffaaaSpec
import Derived.Test.YtmmhamabkiffaaaOwn
import Derived.Test.YtmmhamabkiffaaaRows
namespace Go.Proofs.Ytmmhamabkiffaaa
open Go Go.RowKit Go.Proofs.Bw
set_option linter.unusedVariables false
set_option linter.unusedSimpArgs false
theorem mixed : Try.prog.follows .mixedOrders = true := by kernel_rfl
theorem eqL_in (a b : L) (w : World) : (Op.equalIn 10000 46 (.agg a.cells.toArray) (.agg b.cells.toArray)).run Try.prog w = .ok (a.same b) w :=
  run_equalL 9997 46 44 3 Try.underlying46 rfl ⟨by decide, rfl, rfl⟩ ⟨by decide, rfl, rfl⟩ Try.stoodInHeld46 Try.underlying44 Try.sizeOf3 Try.isAgg3 Try.isAgg44 Try.sizeOf44 Try.underlying3 w a b
section
variable {e : Env} {w : World} {K : Value → World → Prop} {d : Option Tmp} {t : TypeId} {pos : String} {af : Array Edge} {g : Option (Nat × Bool)} {x y : Operand} {yt : TypeId} {a b : L}
theorem OpT.eqlL (hx : evalO e x = some (.agg a.cells.toArray)) (hy : evalO e y = some (.agg b.cells.toArray)) (h : K (.bool (a.same b)) w) : OpT Try.prog e w ⟨d, .binOp .eql 46 x y yt, t, pos, af, g⟩ K :=
  Bw.OpT.value (fun ρ hρ => by simp [execOp, hρ x _ hx, hρ y _ hy, run_eqGuard_agg w _ _ _ _ _ _ Try.eqGuardType46, run_eql_struct, eqL_in]) h
theorem OpT.neqL (hx : evalO e x = some (.agg a.cells.toArray)) (hy : evalO e y = some (.agg b.cells.toArray)) (h : K (.bool (!a.same b)) w) : OpT Try.prog e w ⟨d, .binOp .neq 46 x y yt, t, pos, af, g⟩ K :=
  Bw.OpT.value (v := .bool (!a.same b)) (fun ρ hρ => by simp [execOp, hρ x _ hx, hρ y _ hy, run_eqGuard_agg w _ _ _ _ _ _ Try.eqGuardType46, run_neq_struct, eqL_in]) h
end
theorem places26 : ∃ fs, Try.prog.underlying 26 = some (.struct fs) ∧ PlacesAre Try.prog fs #[(0, 1), (1, 1), (2, 1), (3, 1), (4, 1)] := ⟨_, Try.underlying26, fun w => by kernel_rfl⟩
theorem places46 : ∃ fs, Try.prog.underlying 46 = some (.struct fs) ∧ PlacesAre Try.prog fs #[(0, 1), (1, 4)] := ⟨_, Try.underlying46, fun w => by kernel_rfl⟩
theorem info9 : Try.prog.info? 9 = some Try.t9 ∧ Try.t9.zero = some (Try.t9.zero.get rfl) ∧ Try.t9.size = 1 ∧ Try.t9.bytes = 16 ∧ (Try.t9.zero.get rfl).cells.size = 1 := ⟨by kernel_rfl, rfl, rfl, rfl, rfl⟩
theorem info26 : Try.prog.info? 26 = some Try.t26 ∧ Try.t26.zero = some (Try.t26.zero.get rfl) ∧ Try.t26.size = 5 ∧ Try.t26.bytes = 80 ∧ (Try.t26.zero.get rfl).cells.size = 5 := ⟨by kernel_rfl, rfl, rfl, rfl, rfl⟩
end Go.Proofs.Ytmmhamabkiffaaa

