import Derived.Test.YtnoghkpofpaeeaaLvlEq
import Derived.Test.YtnoghkpofpaeeaaDraw
import Derived.Test.YtnoghkpofpaeeaaSpec
import Derived.Test.YtnoghkpofpaeeaaOwn
import Derived.Test.YtnoghkpofpaeeaaRows
namespace Go.Proofs.Ytnoghkpofpaeeaa
open Go Go.RowKit Go.Proofs.Bw
set_option linter.unusedVariables false
set_option linter.unusedSimpArgs false
theorem mixed : Try.prog.follows .mixedOrders = true := by kernel_rfl
theorem eqL_in (a b : L) (w : World) : (Op.equalIn 10000 48 (.agg a.cells.toArray) (.agg b.cells.toArray)).run Try.prog w = .ok (a.same b) w :=
  run_equalL 9997 48 46 3 Try.underlying48 rfl ⟨by decide, rfl, rfl⟩ ⟨by decide, rfl, rfl⟩ Try.stoodInHeld48 Try.underlying46 Try.sizeOf3 Try.isAgg3 Try.isAgg46 Try.sizeOf46 Try.underlying3 w a b
section
variable {e : Env} {w : World} {K : Value → World → Prop} {d : Option Tmp} {t : TypeId} {pos : String} {af : Array Edge} {g : Option (Nat × Bool)} {x y : Operand} {yt : TypeId} {a b : L}
theorem OpT.eqlL (hx : evalO e x = some (.agg a.cells.toArray)) (hy : evalO e y = some (.agg b.cells.toArray)) (h : K (.bool (a.same b)) w) : OpT Try.prog e w ⟨d, .binOp .eql 48 x y yt, t, pos, af, g⟩ K :=
  Bw.OpT.value (fun ρ hρ => by simp [execOp, hρ x _ hx, hρ y _ hy, run_eqGuard_agg w _ _ _ _ _ _ Try.eqGuardType48, run_eql_struct, eqL_in]) h
theorem OpT.neqL (hx : evalO e x = some (.agg a.cells.toArray)) (hy : evalO e y = some (.agg b.cells.toArray)) (h : K (.bool (!a.same b)) w) : OpT Try.prog e w ⟨d, .binOp .neq 48 x y yt, t, pos, af, g⟩ K :=
  Bw.OpT.value (v := .bool (!a.same b)) (fun ρ hρ => by simp [execOp, hρ x _ hx, hρ y _ hy, run_eqGuard_agg w _ _ _ _ _ _ Try.eqGuardType48, run_neq_struct, eqL_in]) h
end
theorem places32 : ∃ fs, Try.prog.underlying 32 = some (.struct fs) ∧ PlacesAre Try.prog fs #[(0, 1), (1, 1), (2, 1), (3, 1), (4, 1)] := ⟨_, Try.underlying32, fun w => by kernel_rfl⟩
theorem places35 : ∃ fs, Try.prog.underlying 35 = some (.struct fs) ∧ PlacesAre Try.prog fs #[(0, 1), (1, 1), (2, 1), (3, 5), (8, 5), (13, 1), (14, 1), (15, 1), (16, 1), (17, 1), (18, 1), (19, 1), (20, 1), (21, 1), (22, 1), (23, 1), (24, 1)] := ⟨_, Try.underlying35, fun w => by kernel_rfl⟩
theorem places48 : ∃ fs, Try.prog.underlying 48 = some (.struct fs) ∧ PlacesAre Try.prog fs #[(0, 1), (1, 4)] := ⟨_, Try.underlying48, fun w => by kernel_rfl⟩
theorem places61 : ∃ fs, Try.prog.underlying 61 = some (.struct fs) ∧ PlacesAre Try.prog fs #[(0, 1), (1, 1)] := ⟨_, Try.underlying61, fun w => by kernel_rfl⟩
theorem info3 : Try.prog.info? 3 = some Try.t3 ∧ Try.t3.zero = some (Try.t3.zero.get rfl) ∧ Try.t3.size = 1 ∧ Try.t3.bytes = 8 ∧ (Try.t3.zero.get rfl).cells.size = 1 := ⟨by kernel_rfl, rfl, rfl, rfl, rfl⟩
theorem info9 : Try.prog.info? 9 = some Try.t9 ∧ Try.t9.zero = some (Try.t9.zero.get rfl) ∧ Try.t9.size = 1 ∧ Try.t9.bytes = 16 ∧ (Try.t9.zero.get rfl).cells.size = 1 := ⟨by kernel_rfl, rfl, rfl, rfl, rfl⟩
theorem info32 : Try.prog.info? 32 = some Try.t32 ∧ Try.t32.zero = some (Try.t32.zero.get rfl) ∧ Try.t32.size = 5 ∧ Try.t32.bytes = 80 ∧ (Try.t32.zero.get rfl).cells.size = 5 := ⟨by kernel_rfl, rfl, rfl, rfl, rfl⟩
theorem info35 : Try.prog.info? 35 = some Try.t35 ∧ Try.t35.zero = some (Try.t35.zero.get rfl) ∧ Try.t35.size = 25 ∧ Try.t35.bytes = 320 ∧ (Try.t35.zero.get rfl).cells.size = 25 := ⟨by kernel_rfl, rfl, rfl, rfl, rfl⟩
theorem info48 : Try.prog.info? 48 = some Try.t48 ∧ Try.t48.zero = some (Try.t48.zero.get rfl) ∧ Try.t48.size = 5 ∧ Try.t48.bytes = 40 ∧ (Try.t48.zero.get rfl).cells.size = 5 := ⟨by kernel_rfl, rfl, rfl, rfl, rfl⟩
theorem info58 : Try.prog.info? 58 = some Try.t58 ∧ Try.t58.zero = some (Try.t58.zero.get rfl) ∧ Try.t58.size = 7 ∧ Try.t58.bytes = 104 ∧ (Try.t58.zero.get rfl).cells.size = 7 := ⟨by kernel_rfl, rfl, rfl, rfl, rfl⟩
end Go.Proofs.Ytnoghkpofpaeeaa

