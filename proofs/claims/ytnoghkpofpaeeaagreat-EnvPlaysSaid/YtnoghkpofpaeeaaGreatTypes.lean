import Derived.Test.YtnoghkpofpaeeaaGreatLvlEq
import Derived.Test.YtnoghkpofpaeeaaGreatDraw
import Derived.Test.YtnoghkpofpaeeaaGreatSpec
import Derived.Test.YtnoghkpofpaeeaaGreatOwn
import Derived.Test.YtnoghkpofpaeeaaGreatRows
namespace Go.Proofs.YtnoghkpofpaeeaaGreat
open Go Go.RowKit Go.Proofs.Bw
set_option linter.unusedVariables false
set_option linter.unusedSimpArgs false
theorem mixed : Tryz.prog.follows .mixedOrders = true := by kernel_rfl
theorem eqL_in (a b : L) (w : World) : (Op.equalIn 10000 69 (.agg a.cells.toArray) (.agg b.cells.toArray)).run Tryz.prog w = .ok (a.same b) w :=
  run_equalL 9997 69 67 3 Tryz.underlying69 rfl ⟨by decide, rfl, rfl⟩ ⟨by decide, rfl, rfl⟩ Tryz.stoodInHeld69 Tryz.underlying67 Tryz.sizeOf3 Tryz.isAgg3 Tryz.isAgg67 Tryz.sizeOf67 Tryz.underlying3 w a b
section
variable {e : Env} {w : World} {K : Value → World → Prop} {d : Option Tmp} {t : TypeId} {pos : String} {af : Array Edge} {g : Option (Nat × Bool)} {x y : Operand} {yt : TypeId} {a b : L}
theorem OpT.eqlL (hx : evalO e x = some (.agg a.cells.toArray)) (hy : evalO e y = some (.agg b.cells.toArray)) (h : K (.bool (a.same b)) w) : OpT Tryz.prog e w ⟨d, .binOp .eql 69 x y yt, t, pos, af, g⟩ K :=
  Bw.OpT.value (fun ρ hρ => by simp [execOp, hρ x _ hx, hρ y _ hy, run_eqGuard_agg w _ _ _ _ _ _ Tryz.eqGuardType69, run_eql_struct, eqL_in]) h
theorem OpT.neqL (hx : evalO e x = some (.agg a.cells.toArray)) (hy : evalO e y = some (.agg b.cells.toArray)) (h : K (.bool (!a.same b)) w) : OpT Tryz.prog e w ⟨d, .binOp .neq 69 x y yt, t, pos, af, g⟩ K :=
  Bw.OpT.value (v := .bool (!a.same b)) (fun ρ hρ => by simp [execOp, hρ x _ hx, hρ y _ hy, run_eqGuard_agg w _ _ _ _ _ _ Tryz.eqGuardType69, run_neq_struct, eqL_in]) h
end
theorem places27 : ∃ fs, Tryz.prog.underlying 27 = some (.struct fs) ∧ PlacesAre Tryz.prog fs #[(0, 1), (1, 1), (2, 1), (3, 1), (4, 1)] := ⟨_, Tryz.underlying27, fun w => by kernel_rfl⟩
theorem places35 : ∃ fs, Tryz.prog.underlying 35 = some (.struct fs) ∧ PlacesAre Tryz.prog fs #[(0, 1)] := ⟨_, Tryz.underlying35, fun w => by kernel_rfl⟩
theorem places46 : ∃ fs, Tryz.prog.underlying 46 = some (.struct fs) ∧ PlacesAre Tryz.prog fs #[(0, 1), (1, 1), (2, 1), (3, 5), (8, 5), (13, 1), (14, 1), (15, 1), (16, 1), (17, 1), (18, 1), (19, 1), (20, 1), (21, 1), (22, 1), (23, 1), (24, 1)] := ⟨_, Tryz.underlying46, fun w => by kernel_rfl⟩
theorem places61 : ∃ fs, Tryz.prog.underlying 61 = some (.struct fs) ∧ PlacesAre Tryz.prog fs #[(0, 1), (1, 1)] := ⟨_, Tryz.underlying61, fun w => by kernel_rfl⟩
theorem places69 : ∃ fs, Tryz.prog.underlying 69 = some (.struct fs) ∧ PlacesAre Tryz.prog fs #[(0, 1), (1, 4)] := ⟨_, Tryz.underlying69, fun w => by kernel_rfl⟩
theorem info3 : Tryz.prog.info? 3 = some Tryz.t3 ∧ Tryz.t3.zero = some (Tryz.t3.zero.get rfl) ∧ Tryz.t3.size = 1 ∧ Tryz.t3.bytes = 8 ∧ (Tryz.t3.zero.get rfl).cells.size = 1 := ⟨by kernel_rfl, rfl, rfl, rfl, rfl⟩
theorem info9 : Tryz.prog.info? 9 = some Tryz.t9 ∧ Tryz.t9.zero = some (Tryz.t9.zero.get rfl) ∧ Tryz.t9.size = 1 ∧ Tryz.t9.bytes = 16 ∧ (Tryz.t9.zero.get rfl).cells.size = 1 := ⟨by kernel_rfl, rfl, rfl, rfl, rfl⟩
theorem info27 : Tryz.prog.info? 27 = some Tryz.t27 ∧ Tryz.t27.zero = some (Tryz.t27.zero.get rfl) ∧ Tryz.t27.size = 5 ∧ Tryz.t27.bytes = 80 ∧ (Tryz.t27.zero.get rfl).cells.size = 5 := ⟨by kernel_rfl, rfl, rfl, rfl, rfl⟩
theorem info46 : Tryz.prog.info? 46 = some Tryz.t46 ∧ Tryz.t46.zero = some (Tryz.t46.zero.get rfl) ∧ Tryz.t46.size = 25 ∧ Tryz.t46.bytes = 320 ∧ (Tryz.t46.zero.get rfl).cells.size = 25 := ⟨by kernel_rfl, rfl, rfl, rfl, rfl⟩
theorem info56 : Tryz.prog.info? 56 = some Tryz.t56 ∧ Tryz.t56.zero = some (Tryz.t56.zero.get rfl) ∧ Tryz.t56.size = 7 ∧ Tryz.t56.bytes = 104 ∧ (Tryz.t56.zero.get rfl).cells.size = 7 := ⟨by kernel_rfl, rfl, rfl, rfl, rfl⟩
theorem info69 : Tryz.prog.info? 69 = some Tryz.t69 ∧ Tryz.t69.zero = some (Tryz.t69.zero.get rfl) ∧ Tryz.t69.size = 5 ∧ Tryz.t69.bytes = 40 ∧ (Tryz.t69.zero.get rfl).cells.size = 5 := ⟨by kernel_rfl, rfl, rfl, rfl, rfl⟩
end Go.Proofs.YtnoghkpofpaeeaaGreat

