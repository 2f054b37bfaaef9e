import Derived.Test.YtfljbnhhkdaobaaGreatA3
import Derived.Test.YtfljbnhhkdaobaaGreatA1
import Derived.Test.YtfljbnhhkdaobaaGreatRows
import Derived.Test.YtfljbnhhkdaobaaGreatProg
import Derived.WalkKit
import Derived.RangeFuncNested
import Derived.RangeFuncBound
import Derived.RangeFuncCalls
import Derived.RangeFuncLeaves
import Derived.Shelf.Abstract
import Derived.Shelf.RegionOpen
import Derived.OwnWalkIn
import Derived.TacticsInMore
import Derived.LoopNIn
import Derived.LoopIn
namespace Go.Proofs.YtfljbnhhkdaobaaGreat
open Go Go.RowKit Go.Proofs.Bw
set_option linter.unusedVariables false
set_option linter.unusedSimpArgs false
theorem mixed : Tryz.prog.follows .mixedOrders = true := by kernel_rfl
theorem eqL_in (a b : L) (w : World) : (Op.equalIn 10000 63 (.agg a.cells.toArray) (.agg b.cells.toArray)).run Tryz.prog w = .ok (a.same b) w :=
  run_equalL 9997 63 61 3 Tryz.underlying63 rfl ⟨by decide, rfl, rfl⟩ ⟨by decide, rfl, rfl⟩ Tryz.stoodInHeld63 Tryz.underlying61 Tryz.sizeOf3 Tryz.isAgg3 Tryz.isAgg61 Tryz.sizeOf61 Tryz.underlying3 w a b
section
variable {e : Env} {w : World} {K : Value → World → Prop} {d : Option Tmp} {t : TypeId} {pos : String} {af : Array Edge} {g : Option (Nat × Bool)} {x y : Operand} {yt : TypeId} {a b : L}
theorem OpT.eqlL (hx : evalO e x = some (.agg a.cells.toArray)) (hy : evalO e y = some (.agg b.cells.toArray)) (h : K (.bool (a.same b)) w) : OpT Tryz.prog e w ⟨d, .binOp .eql 63 x y yt, t, pos, af, g⟩ K :=
  Bw.OpT.value (fun ρ hρ => by simp [execOp, hρ x _ hx, hρ y _ hy, run_eqGuard_agg w _ _ _ _ _ _ Tryz.eqGuardType63, run_eql_struct, eqL_in]) h
theorem OpT.neqL (hx : evalO e x = some (.agg a.cells.toArray)) (hy : evalO e y = some (.agg b.cells.toArray)) (h : K (.bool (!a.same b)) w) : OpT Tryz.prog e w ⟨d, .binOp .neq 63 x y yt, t, pos, af, g⟩ K :=
  Bw.OpT.value (v := .bool (!a.same b)) (fun ρ hρ => by simp [execOp, hρ x _ hx, hρ y _ hy, run_eqGuard_agg w _ _ _ _ _ _ Tryz.eqGuardType63, run_neq_struct, eqL_in]) h
end
theorem places33 : ∃ fs, Tryz.prog.underlying 33 = some (.struct fs) ∧ PlacesAre Tryz.prog fs #[(0, 1), (1, 1), (2, 1), (3, 1), (4, 1)] := ⟨_, Tryz.underlying33, fun w => by kernel_rfl⟩
theorem places63 : ∃ fs, Tryz.prog.underlying 63 = some (.struct fs) ∧ PlacesAre Tryz.prog fs #[(0, 1), (1, 4)] := ⟨_, Tryz.underlying63, fun w => by kernel_rfl⟩
theorem info33 : Tryz.prog.info? 33 = some Tryz.t33 ∧ Tryz.t33.zero = some (Tryz.t33.zero.get rfl) ∧ Tryz.t33.size = 5 ∧ Tryz.t33.bytes = 80 ∧ (Tryz.t33.zero.get rfl).cells.size = 5 := ⟨by kernel_rfl, rfl, rfl, rfl, rfl⟩
end Go.Proofs.YtfljbnhhkdaobaaGreat

/-
  The types and functions of this seat, as the conditions of code know them (printed by a program of this work).
-/
namespace Go.Proofs.YtfljbnhhkdaobaaGreat
open Go Go.RowKit Go.Proofs.Bw
noncomputable def tab : Tab := [(3, ⟨false, 1, [.int .i64 0], .int .i64⟩),
  (4, ⟨false, 1, [.bool false], .bool⟩),
  (5, ⟨false, 1, [.int .u8 0], .int .u8⟩),
  (9, ⟨false, 1, [.string ⟨#[]⟩], .str⟩),
  (22, ⟨false, 1, [.slice none 0 0], .slice 36 25⟩),
  (25, ⟨false, 1, [.pointer none], .ptr⟩),
  (28, ⟨false, 1, [.slice none 0 0], .slice 9 1⟩),
  (30, ⟨false, 1, [.slice none 0 0], .slice 63 5⟩),
  (31, ⟨false, 1, [.slice none 0 0], .slice 33 5⟩),
  (33, ⟨true, 5, [.int .u8 0, .int .i64 0, .string ⟨#[]⟩, .slice none 0 0, .slice none 0 0], .struct [⟨0, 1, false⟩, ⟨1, 1, false⟩, ⟨2, 1, false⟩, ⟨3, 1, false⟩, ⟨4, 1, false⟩]⟩),
  (34, ⟨false, 1, [.slice none 0 0], .slice 84 7⟩),
  (36, ⟨true, 25, [.int .u8 0, .string ⟨#[]⟩, .int .i64 0, .int .u8 0, .int .i64 0, .string ⟨#[]⟩, .slice none 0 0, .slice none 0 0, .int .u8 0, .int .i64 0, .string ⟨#[]⟩, .slice none 0 0, .slice none 0 0, .int .i64 0, .string ⟨#[]⟩, .string ⟨#[]⟩, .int .i64 0, .int .i64 0, .int .i64 0, .int .i64 0, .int .i64 0, .int .i64 0, .slice none 0 0, .int .i64 0, .bool false], .struct [⟨0, 1, false⟩, ⟨1, 1, false⟩, ⟨2, 1, false⟩, ⟨3, 5, true⟩, ⟨8, 5, true⟩, ⟨13, 1, false⟩, ⟨14, 1, false⟩, ⟨15, 1, false⟩, ⟨16, 1, false⟩, ⟨17, 1, false⟩, ⟨18, 1, false⟩, ⟨19, 1, false⟩, ⟨20, 1, false⟩, ⟨21, 1, false⟩, ⟨22, 1, false⟩, ⟨23, 1, false⟩, ⟨24, 1, false⟩]⟩),
  (40, ⟨false, 1, [.int .i64 0], .int .i64⟩),
  (45, ⟨false, 1, [.nilFunc], .other⟩),
  (46, ⟨false, 1, [.pointer none], .ptr⟩),
  (61, ⟨true, 4, [.int .i64 0, .int .i64 0, .int .i64 0, .int .i64 0], .arr 4 3 1 false⟩),
  (63, ⟨true, 5, [.int .i64 0, .int .i64 0, .int .i64 0, .int .i64 0, .int .i64 0], .struct [⟨0, 1, false⟩, ⟨1, 4, true⟩]⟩),
  (84, ⟨true, 7, [.string ⟨#[]⟩, .int .i64 0, .int .u8 0, .int .i64 0, .string ⟨#[]⟩, .slice none 0 0, .slice none 0 0], .struct [⟨0, 1, false⟩, ⟨1, 1, false⟩, ⟨2, 5, true⟩]⟩),
  (89, ⟨false, 1, [.map none], .other⟩),
  (91, ⟨true, 2, [.map none, .slice none 0 0], .struct [⟨0, 1, false⟩, ⟨1, 1, false⟩]⟩),
  (95, ⟨false, 1, [.nilFunc], .other⟩),
  (97, ⟨false, 1, [.map none], .other⟩),
  (99, ⟨true, 2, [.pointer none, .bool false], .struct [⟨0, 1, false⟩, ⟨1, 1, false⟩]⟩),
  (115, ⟨true, 33, [.int .u8 0, .string ⟨#[]⟩, .int .i64 0, .int .u8 0, .int .i64 0, .string ⟨#[]⟩, .slice none 0 0, .slice none 0 0, .int .u8 0, .int .i64 0, .string ⟨#[]⟩, .slice none 0 0, .slice none 0 0, .int .i64 0, .string ⟨#[]⟩, .string ⟨#[]⟩, .int .i64 0, .int .i64 0, .int .i64 0, .int .i64 0, .int .i64 0, .int .i64 0, .slice none 0 0, .int .i64 0, .bool false, .int .u8 0, .int .i64 0, .string ⟨#[]⟩, .slice none 0 0, .slice none 0 0, .slice none 0 0, .int .i64 0, .int .i64 0], .struct [⟨0, 25, true⟩, ⟨25, 5, true⟩, ⟨30, 1, false⟩, ⟨31, 1, false⟩, ⟨32, 1, false⟩]⟩),
  (128, ⟨false, 1, [.nilFunc], .other⟩),
  (129, ⟨false, 1, [.nilFunc], .other⟩),
  (134, ⟨false, 1, [.nilFunc], .other⟩),
  (136, ⟨false, 1, [.nilFunc], .other⟩),
  (138, ⟨true, 1, [.slice none 0 0], .struct [⟨0, 1, false⟩]⟩),
  (146, ⟨false, 1, [.int .u64 0], .int .u64⟩),
  (147, ⟨false, 1, [.slice none 0 0], .slice 5 1⟩),
  (149, ⟨false, 1, [.slice none 0 0], .slice 3 1⟩),
  (151, ⟨false, 1, [.nilFunc], .other⟩),
  (152, ⟨false, 1, [.nilFunc], .other⟩),
  (156, ⟨false, 1, [.nilFunc], .other⟩),
  (160, ⟨false, 1, [.int .i64 0], .int .i64⟩),
  (168, ⟨false, 1, [.int .u32 0], .int .u32⟩),
  (170, ⟨false, 1, [.int .u64 0], .int .u64⟩),
  (182, ⟨false, 1, [.int .u64 0], .int .u64⟩),
  (186, ⟨false, 1, [.pointer none], .ptr⟩)]
noncomputable def cx : Cx := ⟨Tryz.prog, tab, [3, 4, 5, 6, 7, 8, 9, 10, 11, 12, 13, 14, 15, 16, 17, 18, 19, 20, 21, 22, 23, 24, 25, 26, 27, 28, 29, 30, 31, 32, 33, 34, 35, 36, 37, 38, 39, 40, 41, 42, 43, 44, 45, 46, 47, 48, 49, 50, 51, 52, 53, 54, 55, 56, 57, 58, 59, 60, 61, 62, 63, 64, 65, 66, 67, 68, 69, 70, 71, 72, 73, 74, 75, 76, 77, 78, 79, 80, 81, 82, 83, 84, 85, 86, 87, 88, 89, 90, 91, 92, 93, 94, 95, 96, 97, 98, 99, 100, 101, 102, 103, 104, 105, 106, 107, 108, 109, 110, 111, 112, 113, 114, 115, 116, 117, 118, 119, 120, 121, 122, 123, 124, 125, 126, 127, 128, 129, 130, 131, 132, 133, 134, 135, 136, 137, 138, 139, 140, 141, 142, 143, 144, 145, 146, 147, 148, 149, 150, 151, 152, 153, 154, 155, 156, 157, 158, 159, 160, 161, 162, 163, 164, 165, 166, 167, 168, 169, 170, 171, 172, 173, 174, 175, 176, 177, 178]⟩
set_option maxRecDepth 20000 in
theorem tab_ok : TabOk Tryz.prog tab := ⟨⟨Tryz.isAgg3, Tryz.sizeOf3, ⟨_, Tryz.zeroValue3, rfl⟩, Tryz.underlying3⟩,
  ⟨Tryz.isAgg4, Tryz.sizeOf4, ⟨_, Tryz.zeroValue4, rfl⟩, Tryz.underlying4⟩,
  ⟨Tryz.isAgg5, Tryz.sizeOf5, ⟨_, Tryz.zeroValue5, rfl⟩, Tryz.underlying5⟩,
  ⟨Tryz.isAgg9, Tryz.sizeOf9, ⟨_, Tryz.zeroValue9, rfl⟩, Tryz.underlying9⟩,
  ⟨Tryz.isAgg22, Tryz.sizeOf22, ⟨_, Tryz.zeroValue22, rfl⟩, ⟨Tryz.underlying22, Tryz.sizeOf36⟩⟩,
  ⟨Tryz.isAgg25, Tryz.sizeOf25, ⟨_, Tryz.zeroValue25, rfl⟩, ⟨_, Tryz.underlying25⟩⟩,
  ⟨Tryz.isAgg28, Tryz.sizeOf28, ⟨_, Tryz.zeroValue28, rfl⟩, ⟨Tryz.underlying28, Tryz.sizeOf9⟩⟩,
  ⟨Tryz.isAgg30, Tryz.sizeOf30, ⟨_, Tryz.zeroValue30, rfl⟩, ⟨Tryz.underlying30, Tryz.sizeOf63⟩⟩,
  ⟨Tryz.isAgg31, Tryz.sizeOf31, ⟨_, Tryz.zeroValue31, rfl⟩, ⟨Tryz.underlying31, Tryz.sizeOf33⟩⟩,
  ⟨Tryz.isAgg33, Tryz.sizeOf33, ⟨_, Tryz.zeroValue33, rfl⟩, ⟨_, Tryz.underlying33, ⟨rfl, Tryz.sizeOf5, Tryz.isAgg5, rfl, Tryz.sizeOf3, Tryz.isAgg3, rfl, Tryz.sizeOf9, Tryz.isAgg9, rfl, Tryz.sizeOf30, Tryz.isAgg30, rfl, Tryz.sizeOf31, Tryz.isAgg31, trivial⟩⟩⟩,
  ⟨Tryz.isAgg34, Tryz.sizeOf34, ⟨_, Tryz.zeroValue34, rfl⟩, ⟨Tryz.underlying34, Tryz.sizeOf84⟩⟩,
  ⟨Tryz.isAgg36, Tryz.sizeOf36, ⟨_, Tryz.zeroValue36, rfl⟩, ⟨_, Tryz.underlying36, ⟨rfl, Tryz.sizeOf5, Tryz.isAgg5, rfl, Tryz.sizeOf9, Tryz.isAgg9, rfl, Tryz.sizeOf3, Tryz.isAgg3, rfl, Tryz.sizeOf33, Tryz.isAgg33, rfl, Tryz.sizeOf33, Tryz.isAgg33, rfl, Tryz.sizeOf3, Tryz.isAgg3, rfl, Tryz.sizeOf9, Tryz.isAgg9, rfl, Tryz.sizeOf9, Tryz.isAgg9, rfl, Tryz.sizeOf3, Tryz.isAgg3, rfl, Tryz.sizeOf3, Tryz.isAgg3, rfl, Tryz.sizeOf3, Tryz.isAgg3, rfl, Tryz.sizeOf3, Tryz.isAgg3, rfl, Tryz.sizeOf3, Tryz.isAgg3, rfl, Tryz.sizeOf3, Tryz.isAgg3, rfl, Tryz.sizeOf34, Tryz.isAgg34, rfl, Tryz.sizeOf3, Tryz.isAgg3, rfl, Tryz.sizeOf4, Tryz.isAgg4, trivial⟩⟩⟩,
  ⟨Tryz.isAgg40, Tryz.sizeOf40, ⟨_, Tryz.zeroValue40, rfl⟩, Tryz.underlying40⟩,
  ⟨Tryz.isAgg45, Tryz.sizeOf45, ⟨_, Tryz.zeroValue45, rfl⟩, trivial⟩,
  ⟨Tryz.isAgg46, Tryz.sizeOf46, ⟨_, Tryz.zeroValue46, rfl⟩, ⟨_, Tryz.underlying46⟩⟩,
  ⟨Tryz.isAgg61, Tryz.sizeOf61, ⟨_, Tryz.zeroValue61, rfl⟩, ⟨Tryz.underlying61, Tryz.sizeOf3, Tryz.isAgg3⟩⟩,
  ⟨Tryz.isAgg63, Tryz.sizeOf63, ⟨_, Tryz.zeroValue63, rfl⟩, ⟨_, Tryz.underlying63, ⟨rfl, Tryz.sizeOf3, Tryz.isAgg3, rfl, Tryz.sizeOf61, Tryz.isAgg61, trivial⟩⟩⟩,
  ⟨Tryz.isAgg84, Tryz.sizeOf84, ⟨_, Tryz.zeroValue84, rfl⟩, ⟨_, Tryz.underlying84, ⟨rfl, Tryz.sizeOf9, Tryz.isAgg9, rfl, Tryz.sizeOf3, Tryz.isAgg3, rfl, Tryz.sizeOf33, Tryz.isAgg33, trivial⟩⟩⟩,
  ⟨Tryz.isAgg89, Tryz.sizeOf89, ⟨_, Tryz.zeroValue89, rfl⟩, trivial⟩,
  ⟨Tryz.isAgg91, Tryz.sizeOf91, ⟨_, Tryz.zeroValue91, rfl⟩, ⟨_, Tryz.underlying91, ⟨rfl, Tryz.sizeOf89, Tryz.isAgg89, rfl, Tryz.sizeOf28, Tryz.isAgg28, trivial⟩⟩⟩,
  ⟨Tryz.isAgg95, Tryz.sizeOf95, ⟨_, Tryz.zeroValue95, rfl⟩, trivial⟩,
  ⟨Tryz.isAgg97, Tryz.sizeOf97, ⟨_, Tryz.zeroValue97, rfl⟩, trivial⟩,
  ⟨Tryz.isAgg99, Tryz.sizeOf99, ⟨_, Tryz.zeroValue99, rfl⟩, ⟨_, Tryz.underlying99, ⟨rfl, Tryz.sizeOf25, Tryz.isAgg25, rfl, Tryz.sizeOf4, Tryz.isAgg4, trivial⟩⟩⟩,
  ⟨Tryz.isAgg115, Tryz.sizeOf115, ⟨_, Tryz.zeroValue115, rfl⟩, ⟨_, Tryz.underlying115, ⟨rfl, Tryz.sizeOf36, Tryz.isAgg36, rfl, Tryz.sizeOf33, Tryz.isAgg33, rfl, Tryz.sizeOf31, Tryz.isAgg31, rfl, Tryz.sizeOf3, Tryz.isAgg3, rfl, Tryz.sizeOf3, Tryz.isAgg3, trivial⟩⟩⟩,
  ⟨Tryz.isAgg128, Tryz.sizeOf128, ⟨_, Tryz.zeroValue128, rfl⟩, trivial⟩,
  ⟨Tryz.isAgg129, Tryz.sizeOf129, ⟨_, Tryz.zeroValue129, rfl⟩, trivial⟩,
  ⟨Tryz.isAgg134, Tryz.sizeOf134, ⟨_, Tryz.zeroValue134, rfl⟩, trivial⟩,
  ⟨Tryz.isAgg136, Tryz.sizeOf136, ⟨_, Tryz.zeroValue136, rfl⟩, trivial⟩,
  ⟨Tryz.isAgg138, Tryz.sizeOf138, ⟨_, Tryz.zeroValue138, rfl⟩, ⟨_, Tryz.underlying138, ⟨rfl, Tryz.sizeOf22, Tryz.isAgg22, trivial⟩⟩⟩,
  ⟨Tryz.isAgg146, Tryz.sizeOf146, ⟨_, Tryz.zeroValue146, rfl⟩, Tryz.underlying146⟩,
  ⟨Tryz.isAgg147, Tryz.sizeOf147, ⟨_, Tryz.zeroValue147, rfl⟩, ⟨Tryz.underlying147, Tryz.sizeOf5⟩⟩,
  ⟨Tryz.isAgg149, Tryz.sizeOf149, ⟨_, Tryz.zeroValue149, rfl⟩, ⟨Tryz.underlying149, Tryz.sizeOf3⟩⟩,
  ⟨Tryz.isAgg151, Tryz.sizeOf151, ⟨_, Tryz.zeroValue151, rfl⟩, trivial⟩,
  ⟨Tryz.isAgg152, Tryz.sizeOf152, ⟨_, Tryz.zeroValue152, rfl⟩, trivial⟩,
  ⟨Tryz.isAgg156, Tryz.sizeOf156, ⟨_, Tryz.zeroValue156, rfl⟩, trivial⟩,
  ⟨Tryz.isAgg160, Tryz.sizeOf160, ⟨_, Tryz.zeroValue160, rfl⟩, Tryz.underlying160⟩,
  ⟨Tryz.isAgg168, Tryz.sizeOf168, ⟨_, Tryz.zeroValue168, rfl⟩, Tryz.underlying168⟩,
  ⟨Tryz.isAgg170, Tryz.sizeOf170, ⟨_, Tryz.zeroValue170, rfl⟩, Tryz.underlying170⟩,
  ⟨Tryz.isAgg182, Tryz.sizeOf182, ⟨_, Tryz.zeroValue182, rfl⟩, Tryz.underlying182⟩,
  ⟨Tryz.isAgg186, Tryz.sizeOf186, ⟨_, Tryz.zeroValue186, rfl⟩, ⟨_, Tryz.underlying186⟩⟩, trivial⟩
theorem cx_ok : cx.Ok := ⟨tab_ok, ⟨Tryz.call3, Tryz.call4, Tryz.call5, Tryz.call6, Tryz.call7, Tryz.call8, Tryz.call9, Tryz.call10, Tryz.call11, Tryz.call12, Tryz.call13, Tryz.call14, Tryz.call15, Tryz.call16, Tryz.call17, Tryz.call18, Tryz.call19, Tryz.call20, Tryz.call21, Tryz.call22, Tryz.call23, Tryz.call24, Tryz.call25, Tryz.call26, Tryz.call27, Tryz.call28, Tryz.call29, Tryz.call30, Tryz.call31, Tryz.call32, Tryz.call33, Tryz.call34, Tryz.call35, Tryz.call36, Tryz.call37, Tryz.call38, Tryz.call39, Tryz.call40, Tryz.call41, Tryz.call42, Tryz.call43, Tryz.call44, Tryz.call45, Tryz.call46, Tryz.call47, Tryz.call48, Tryz.call49, Tryz.call50, Tryz.call51, Tryz.call52, Tryz.call53, Tryz.call54, Tryz.call55, Tryz.call56, Tryz.call57, Tryz.call58, Tryz.call59, Tryz.call60, Tryz.call61, Tryz.call62, Tryz.call63, Tryz.call64, Tryz.call65, Tryz.call66, Tryz.call67, Tryz.call68, Tryz.call69, Tryz.call70, Tryz.call71, Tryz.call72, Tryz.call73, Tryz.call74, Tryz.call75, Tryz.call76, Tryz.call77, Tryz.call78, Tryz.call79, Tryz.call80, Tryz.call81, Tryz.call82, Tryz.call83, Tryz.call84, Tryz.call85, Tryz.call86, Tryz.call87, Tryz.call88, Tryz.call89, Tryz.call90, Tryz.call91, Tryz.call92, Tryz.call93, Tryz.call94, Tryz.call95, Tryz.call96, Tryz.call97, Tryz.call98, Tryz.call99, Tryz.call100, Tryz.call101, Tryz.call102, Tryz.call103, Tryz.call104, Tryz.call105, Tryz.call106, Tryz.call107, Tryz.call108, Tryz.call109, Tryz.call110, Tryz.call111, Tryz.call112, Tryz.call113, Tryz.call114, Tryz.call115, Tryz.call116, Tryz.call117, Tryz.call118, Tryz.call119, Tryz.call120, Tryz.call121, Tryz.call122, Tryz.call123, Tryz.call124, Tryz.call125, Tryz.call126, Tryz.call127, Tryz.call128, Tryz.call129, Tryz.call130, Tryz.call131, Tryz.call132, Tryz.call133, Tryz.call134, Tryz.call135, Tryz.call136, Tryz.call137, Tryz.call138, Tryz.call139, Tryz.call140, Tryz.call141, Tryz.call142, Tryz.call143, Tryz.call144, Tryz.call145, Tryz.call146, Tryz.call147, Tryz.call148, Tryz.call149, Tryz.call150, Tryz.call151, Tryz.call152, Tryz.call153, Tryz.call154, Tryz.call155, Tryz.call156, Tryz.call157, Tryz.call158, Tryz.call159, Tryz.call160, Tryz.call161, Tryz.call162, Tryz.call163, Tryz.call164, Tryz.call165, Tryz.call166, Tryz.call167, Tryz.call168, Tryz.call169, Tryz.call170, Tryz.call171, Tryz.call172, Tryz.call173, Tryz.call174, Tryz.call175, Tryz.call176, Tryz.call177, Tryz.call178, trivial⟩, mixed⟩
end Go.Proofs.YtfljbnhhkdaobaaGreat

namespace Go.Proofs.YtfljbnhhkdaobaaGreat
open Go Go.RowKit Go.Shelf Go.Proofs.Bw
attribute [local go_sem] Oper.semAt_some
abbrev PX := Nat × Int
def encP (x : PX) : Array Value := #[.int .i64 x.1, .int .i64 x.2]
def upP (l : L) (k : Nat) : List PX := ((List.range k).filter (fun i => decide (0 ≤ l.p i))).map fun i => (i, l.p i)
theorem upP_yes {l : L} {k : Nat} (h : 0 ≤ l.p k) : upP l (k + 1) = upP l k ++ [(k, l.p k)] := by
  unfold upP; rw [List.range_succ, List.filter_append, List.map_append]; simp [h]
theorem upP_no {l : L} {k : Nat} (h : ¬ 0 ≤ l.p k) : upP l (k + 1) = upP l k := by
  unfold upP; rw [List.range_succ, List.filter_append, List.map_append]; simp [h]
theorem upP_len (l : L) (k : Nat) : (upP l k).length ≤ k := by
  unfold upP; rw [List.length_map]; exact Nat.le_trans (List.length_filter_le _ _) (by simp)
set_option maxHeartbeats 2000000 in
set_option maxRecDepth 100000 in
theorem params1_stops (F : Fence) (n : Nat) (h76 : F.fn 177) (hro : F.round = none) (hn : 1 ≤ n) (B : Nat) (l : L) (w : World) (hb : Box w B l.cells) :
    SeqStopsK F n Tryz.prog 177 #[.pointer (some ⟨B, 0, none⟩)] encP (fun _ _ => True) (fun xs => xs = upP l 4) (fun _ => True) 5 w := by
  intro lp J Jx W hW hJ hJx hY h0
  refine callsIn_of_wp Tryz.func177 rfl h76 ?_ hro
  simp only [Tryz.ntmps177, List.size_toArray, List.length_cons, List.length_nil, Nat.reduceAdd, Nat.reduceSub, Array.replicate_succ, Array.replicate_zero, List.push_toArray, List.append_toArray, List.nil_append, List.cons_append]
  have hbW : Box W B l.cells := ⟨hb.choose, (hW.block B hb.lt).trans hb.choose_spec⟩
  have c1 : W.cell? ⟨B, 1, none⟩ = some (.int .i64 l.p0) := by rw [hbW.cell]; rfl
  have c2 : W.cell? ⟨B, 2, none⟩ = some (.int .i64 l.p1) := by rw [hbW.cell]; rfl
  have c3 : W.cell? ⟨B, 3, none⟩ = some (.int .i64 l.p2) := by rw [hbW.cell]; rfl
  have c4 : W.cell? ⟨B, 4, none⟩ = some (.int .i64 l.p3) := by rw [hbW.cell]; rfl
  have ix0 : ∀ w1 : World, (Instr.index 61 (.agg #[.int .i64 l.p0, .int .i64 l.p1, .int .i64 l.p2, .int .i64 l.p3]) (.int .i64 0)).run Tryz.prog w1 = .ok (.int .i64 l.p0) w1 := by
    intro w1
    simp [Instr.index, asIntOf, run_underlying Tryz.underlying61, Tryz.sizeOf3 w1, part]
  have ix1 : ∀ w1 : World, (Instr.index 61 (.agg #[.int .i64 l.p0, .int .i64 l.p1, .int .i64 l.p2, .int .i64 l.p3]) (.int .i64 1)).run Tryz.prog w1 = .ok (.int .i64 l.p1) w1 := by
    intro w1
    simp [Instr.index, asIntOf, run_underlying Tryz.underlying61, Tryz.sizeOf3 w1, part]
  have ix2 : ∀ w1 : World, (Instr.index 61 (.agg #[.int .i64 l.p0, .int .i64 l.p1, .int .i64 l.p2, .int .i64 l.p3]) (.int .i64 2)).run Tryz.prog w1 = .ok (.int .i64 l.p2) w1 := by
    intro w1
    simp [Instr.index, asIntOf, run_underlying Tryz.underlying61, Tryz.sizeOf3 w1, part]
  have ix3 : ∀ w1 : World, (Instr.index 61 (.agg #[.int .i64 l.p0, .int .i64 l.p1, .int .i64 l.p2, .int .i64 l.p3]) (.int .i64 3)).run Tryz.prog w1 = .ok (.int .i64 l.p3) w1 := by
    intro w1
    simp [Instr.index, asIntOf, run_underlying Tryz.underlying61, Tryz.sizeOf3 w1, part]
  gi_wp2
  gi_loopw [7, 3, 4] (fun i _ _ wr => ∃ k : Nat, k ≤ 4 ∧ i = .int .i64 k ∧ J (upP l k) wr)
    (fun i _ _ _ => 4 - (intOf i).toNat)
  case atStart => exact ⟨0, by omega, rfl, h0⟩
  case round =>
    obtain ⟨k, hk, rfl, hJs⟩ := hrel
    have hk5 : k = 0 ∨ k = 1 ∨ k = 2 ∨ k = 3 ∨ k = 4 := by omega
    rcases hk5 with rfl | rfl | rfl | rfl | rfl
    · by_cases hp : 0 ≤ l.p0
      · obtain ⟨fn, tmps, assign, body, hy, hR⟩ := hY _ (0, l.p0) wr hJs (by have := upP_len l 0; omega)
        have hy' : (Instr.yield lp #[.int .i64 0, .int .i64 l.p0]).run Tryz.prog wr = .ok (.round lp fn tmps assign body) wr := hy
        clear hy
        gi_wp2
        refine hR.mono ?_
        rintro e W3 (⟨rfl, hJ3, hk3⟩ | ⟨rfl, hJx3⟩)
        · gi_wp2
          go_roundw
          case rel => exact ⟨1, by omega, by simp, by rw [upP_yes (k := 0) hp]; exact hJ3⟩
          case measure => simp [intOf]
        · gi_wp2
          refine bodyPost_ret (results_none rfl _ _ _) rfl ?_
          exact ⟨⟨_, rfl⟩, .inr ⟨_, trivial, hJx3⟩⟩
      · gi_wp2
        refine ⟨fun _ h => (by cases h), ?_⟩
        gi_wp2
        go_roundw
        case rel => exact ⟨1, by omega, by simp, by rw [upP_no (k := 0) (by show ¬ 0 ≤ l.p0; omega)]; exact hJs⟩
        case measure => simp [intOf]
    · by_cases hp : 0 ≤ l.p1
      · obtain ⟨fn, tmps, assign, body, hy, hR⟩ := hY _ (1, l.p1) wr hJs (by have := upP_len l 1; omega)
        have hy' : (Instr.yield lp #[.int .i64 1, .int .i64 l.p1]).run Tryz.prog wr = .ok (.round lp fn tmps assign body) wr := hy
        clear hy
        gi_wp2
        refine hR.mono ?_
        rintro e W3 (⟨rfl, hJ3, hk3⟩ | ⟨rfl, hJx3⟩)
        · gi_wp2
          go_roundw
          case rel => exact ⟨2, by omega, by simp, by rw [upP_yes (k := 1) hp]; exact hJ3⟩
          case measure => simp [intOf]
        · gi_wp2
          refine bodyPost_ret (results_none rfl _ _ _) rfl ?_
          exact ⟨⟨_, rfl⟩, .inr ⟨_, trivial, hJx3⟩⟩
      · gi_wp2
        refine ⟨fun _ h => (by cases h), ?_⟩
        gi_wp2
        go_roundw
        case rel => exact ⟨2, by omega, by simp, by rw [upP_no (k := 1) (by show ¬ 0 ≤ l.p1; omega)]; exact hJs⟩
        case measure => simp [intOf]
    · by_cases hp : 0 ≤ l.p2
      · obtain ⟨fn, tmps, assign, body, hy, hR⟩ := hY _ (2, l.p2) wr hJs (by have := upP_len l 2; omega)
        have hy' : (Instr.yield lp #[.int .i64 2, .int .i64 l.p2]).run Tryz.prog wr = .ok (.round lp fn tmps assign body) wr := hy
        clear hy
        gi_wp2
        refine hR.mono ?_
        rintro e W3 (⟨rfl, hJ3, hk3⟩ | ⟨rfl, hJx3⟩)
        · gi_wp2
          go_roundw
          case rel => exact ⟨3, by omega, by simp, by rw [upP_yes (k := 2) hp]; exact hJ3⟩
          case measure => simp [intOf]
        · gi_wp2
          refine bodyPost_ret (results_none rfl _ _ _) rfl ?_
          exact ⟨⟨_, rfl⟩, .inr ⟨_, trivial, hJx3⟩⟩
      · gi_wp2
        refine ⟨fun _ h => (by cases h), ?_⟩
        gi_wp2
        go_roundw
        case rel => exact ⟨3, by omega, by simp, by rw [upP_no (k := 2) (by show ¬ 0 ≤ l.p2; omega)]; exact hJs⟩
        case measure => simp [intOf]
    · by_cases hp : 0 ≤ l.p3
      · obtain ⟨fn, tmps, assign, body, hy, hR⟩ := hY _ (3, l.p3) wr hJs (by have := upP_len l 3; omega)
        have hy' : (Instr.yield lp #[.int .i64 3, .int .i64 l.p3]).run Tryz.prog wr = .ok (.round lp fn tmps assign body) wr := hy
        clear hy
        gi_wp2
        refine hR.mono ?_
        rintro e W3 (⟨rfl, hJ3, hk3⟩ | ⟨rfl, hJx3⟩)
        · gi_wp2
          go_roundw
          case rel => exact ⟨4, by omega, by simp, by rw [upP_yes (k := 3) hp]; exact hJ3⟩
          case measure => simp [intOf]
        · gi_wp2
          refine bodyPost_ret (results_none rfl _ _ _) rfl ?_
          exact ⟨⟨_, rfl⟩, .inr ⟨_, trivial, hJx3⟩⟩
      · gi_wp2
        refine ⟨fun _ h => (by cases h), ?_⟩
        gi_wp2
        go_roundw
        case rel => exact ⟨4, by omega, by simp, by rw [upP_no (k := 3) (by show ¬ 0 ≤ l.p3; omega)]; exact hJs⟩
        case measure => simp [intOf]
    · gi_wp2
      go_end0
      exact ⟨⟨_, rfl⟩, .inl ⟨_, rfl, hJs⟩⟩
theorem params_in (F : Fence) (n : Nat) (h69 : F.fn 163) (hro : F.round = none) (l : L) (w : World) :
    CallsIn F n Tryz.prog 163 #[.agg l.cells.toArray] w fun e w' => e = .returned (.func (.func 177) #[] #[.pointer (some ⟨w.heap.size, 0, none⟩)]) ∧ w' = w.alloc (.cells l.cells.toArray 63) := by
  refine callsIn_of_wp Tryz.func163 rfl h69 ?_ hro
  simp only [L.cells, Tryz.ntmps163, List.size_toArray, List.length_cons, List.length_nil, Nat.reduceAdd, Nat.reduceSub, Array.replicate_succ, Array.replicate_zero, List.push_toArray, List.append_toArray, List.nil_append, List.cons_append]
  gi_wp2
  go_ret
  exact ⟨rfl, rfl⟩
def fc (c : Int) (xs : List PX) : Int := xs.foldl (fun c x => if c ≤ x.2 then 0 else c) c
theorem fc_snoc (c : Int) (xs : List PX) (x : PX) : fc c (xs ++ [x]) = if fc c xs ≤ x.2 then 0 else fc c xs := by
  unfold fc; rw [List.foldl_append]; rfl
theorem fc_up (l : L) : fc l.c (upP l 4) = l.form.c := by
  have step : ∀ k, fc l.c (upP l (k + 1)) = if 0 ≤ l.p k ∧ fc l.c (upP l k) ≤ l.p k then 0 else fc l.c (upP l k) := by
    intro k
    by_cases h : 0 ≤ l.p k
    · rw [upP_yes h, fc_snoc]; simp [h]
    · rw [upP_no h]; simp [h]
  have e0 : fc l.c (upP l 0) = l.c := rfl
  rw [step 3, step 2, step 1, step 0, e0]
  simp only [L.p]
  unfold L.form
  grind
def lc (l : L) (c : Int) : L := ⟨c, l.p0, l.p1, l.p2, l.p3⟩
set_option maxHeartbeats 2000000 in
set_option maxRecDepth 100000 in
theorem form_in (F : Fence) (n : Nat) (h52 : F.fn 176) (h69 : F.fn 163) (h76 : F.fn 177) (hro : F.round = none) (hn : 3 ≤ n) (l : L) (w : World) :
    CallsIn F n Tryz.prog 176 #[.agg l.cells.toArray] w fun e w' => e = .returned (.agg l.form.cells.toArray) ∧ Below w.heap.size w w' := by
  have h1 : 1 ≤ n := by omega
  refine callsIn_of_wp_marks Tryz.func176 rfl h52 ?_ hro
  simp only [L.cells, Tryz.ntmps176, List.size_toArray, List.length_cons, List.length_nil, Nat.reduceAdd, Nat.reduceSub, Array.replicate_succ, Array.replicate_zero, List.push_toArray, List.append_toArray, List.nil_append, List.cons_append]
  gi_wp2_with (gi_at_call 163; refine (params_in F (n - 1) h69 hro l _).mono ?_; rintro e w' ⟨rfl, rfl⟩)
  obtain ⟨W0, hW0⟩ : ∃ W0, ((w.alloc (.cells #[.int .i64 l.c, .int .i64 l.p0, .int .i64 l.p1, .int .i64 l.p2, .int .i64 l.p3] 63)).alloc (.cells #[.int .i64 0, .int .i64 0, .int .i64 0, .int .i64 0, .int .i64 0] 63)).alloc (.cells l.cells.toArray 63) = W0 := ⟨_, rfl⟩
  rw [hW0]
  have hsz : W0.heap.size = w.heap.size + 3 := by rw [← hW0]; simp
  have hx0 : Ext w W0 := by rw [← hW0]; exact ((Ext.alloc _ _).trans (Ext.alloc _ _)).trans (Ext.alloc _ _)
  have b1 : Box W0 w.heap.size l.cells := by
    rw [← hW0]
    exact ((Box.new w 63 l.cells).ext (Ext.alloc _ _)).ext (Ext.alloc _ _)
  have b2 : Box W0 (w.heap.size + 1) [.int .i64 0, .int .i64 0, .int .i64 0, .int .i64 0, .int .i64 0] := by
    rw [← hW0]
    have := Box.new (w.alloc (.cells l.cells.toArray 63)) 63 [.int .i64 0, .int .i64 0, .int .i64 0, .int .i64 0, .int .i64 0]
    rw [World.size_alloc] at this
    exact this.ext (Ext.alloc _ _)
  have b3 : Box W0 (w.heap.size + 1 + 1) l.cells := by
    rw [← hW0]
    have := Box.new ((w.alloc (.cells l.cells.toArray 63)).alloc (.cells [.int .i64 0, .int .i64 0, .int .i64 0, .int .i64 0, .int .i64 0].toArray 63)) 63 l.cells
    rw [World.size_alloc, World.size_alloc] at this
    exact this
  refine wpIn_rangeFunc_ownF hro h1 (gf := 177) (lb := #[.pointer (some ⟨w.heap.size + 1 + 1, 0, none⟩)]) rfl h76 (enters_of Tryz.func177 (by kernel_rfl) rfl)
    (params1_stops F (n - 1) h76 hro (by omega) (w.heap.size + 1 + 1) l W0 b3) (fun _ _ => trivial) (fun _ _ _ _ _ _ _ _ => trivial) (Below.refl _ _) (fun _ => rfl)
    (fun pre W => Box W w.heap.size (lc l (fc l.c pre)).cells ∧ Box W (w.heap.size + 1) [.int .i64 0, .int .i64 0, .int .i64 0, .int .i64 0, .int .i64 0] ∧ Below w.heap.size w W)
    (fun _ _ _ => False) ?hI (fun _ _ _ _ _ hs _ _ => hs) ⟨b1, b2, hx0.below⟩
    (fun x => { tmps := #[.agg l.cells.toArray, .pointer (some ⟨w.heap.size, 0, none⟩), .pointer (some ⟨w.heap.size + 1, 0, none⟩), undef, .int .i64 x.2, .agg l.cells.toArray, .func (.func 177) #[] #[.pointer (some ⟨w.heap.size + 1 + 1, 0, none⟩)], .int .i64 x.1, .int .i64 x.2, undef, undef, undef, undef, undef, undef], defers := [] }) ?assign ?body ?done ?stop
  case hI =>
    rintro pre W W' row ⟨h1, h2, h3⟩ hg hr
    have keep : ∀ b vs, Box W b vs → b < W0.heap.size → Box W' b vs := fun b vs hb hlt => ⟨hb.choose, (hg.block b hb.lt (fun e => by have := (hr b e.symm).1; omega)).trans hb.choose_spec⟩
    exact ⟨keep _ _ h1 (by omega), keep _ _ h2 (by omega), h3.grown hg h3.size (fun k e => by have := (hr k e).1; omega)⟩
  case assign =>
    intro lp x W K hK
    dsimp only [encP]
    gi_wp2
    exact hK
  case body =>
    rintro lp pre x W ⟨h1, h2, h3⟩ _
    have c0 : W.cell? ⟨w.heap.size, 0, none⟩ = some (.int .i64 (fc l.c pre)) := by rw [h1.cell]; rfl
    have f0 := h1.frozen 0
    by_cases hx : fc l.c pre ≤ x.2
    · gi_wp2
      refine ⟨KeepsOthers.setCell _ _ _, trivial, ?_, h2.upd (Upd.setCell W ⟨w.heap.size, 0, none⟩ _) (by show w.heap.size + 1 ≠ w.heap.size; omega), h3.setCell (p := ⟨w.heap.size, 0, none⟩) (Nat.le_refl _) _⟩
      have hb := h1.set 0 (.int .i64 0)
      rw [fc_snoc, if_pos hx]
      exact hb
    · gi_wp2
      refine ⟨KeepsOthers.refl _, trivial, ?_, h2, h3⟩
      rw [fc_snoc, if_neg (by omega)]
      exact h1
  case done =>
    rintro D ys W hD rfl ⟨h1, h2, h3⟩ hK
    rw [fc_up] at h1
    have e : lc l l.form.c = l.form := by unfold lc L.form; split <;> rfl
    rw [e] at h1
    have c0 : W.cell? ⟨w.heap.size, 0, none⟩ = some (.int .i64 l.form.c) := by rw [h1.cell]; rfl
    have c1 : W.cell? ⟨w.heap.size, 1, none⟩ = some (.int .i64 l.form.p0) := by rw [h1.cell]; rfl
    have c2 : W.cell? ⟨w.heap.size, 2, none⟩ = some (.int .i64 l.form.p1) := by rw [h1.cell]; rfl
    have c3 : W.cell? ⟨w.heap.size, 3, none⟩ = some (.int .i64 l.form.p2) := by rw [h1.cell]; rfl
    have c4 : W.cell? ⟨w.heap.size, 4, none⟩ = some (.int .i64 l.form.p3) := by rw [h1.cell]; rfl
    have d0 : W.cell? ⟨w.heap.size + 1, 0, none⟩ = some (.int .i64 0) := by rw [h2.cell]; rfl
    have d1 : W.cell? ⟨w.heap.size + 1, 1, none⟩ = some (.int .i64 0) := by rw [h2.cell]; rfl
    have d2 : W.cell? ⟨w.heap.size + 1, 2, none⟩ = some (.int .i64 0) := by rw [h2.cell]; rfl
    have d3 : W.cell? ⟨w.heap.size + 1, 3, none⟩ = some (.int .i64 0) := by rw [h2.cell]; rfl
    have d4 : W.cell? ⟨w.heap.size + 1, 4, none⟩ = some (.int .i64 0) := by rw [h2.cell]; rfl
    have f0 := h2.frozen 0
    have f1 := h2.frozen 1
    have f2 := h2.frozen 2
    have f3 := h2.frozen 3
    have f4 := h2.frozen 4
    gi_wp2
    have s0 := (((((h2.set 0 (.int .i64 l.form.c)).set 1 (.int .i64 l.form.p0)).set 2 (.int .i64 l.form.p1)).set 3 (.int .i64 l.form.p2)).set 4 (.int .i64 l.form.p3))
    have k0 := ((((KeepsOthers.setCell W ⟨w.heap.size + 1, 0, none⟩ (.int .i64 l.form.c)).trans (KeepsOthers.setCell _ ⟨w.heap.size + 1, 1, none⟩ (.int .i64 l.form.p0))).trans (KeepsOthers.setCell _ ⟨w.heap.size + 1, 2, none⟩ (.int .i64 l.form.p1))).trans (KeepsOthers.setCell _ ⟨w.heap.size + 1, 3, none⟩ (.int .i64 l.form.p2))).trans (KeepsOthers.setCell _ ⟨w.heap.size + 1, 4, none⟩ (.int .i64 l.form.p3))
    have e0 := ((((h3.setCell (p := ⟨w.heap.size + 1, 0, none⟩) (by show w.heap.size ≤ w.heap.size + 1; omega) (.int .i64 l.form.c)).setCell (p := ⟨w.heap.size + 1, 1, none⟩) (by show w.heap.size ≤ w.heap.size + 1; omega) (.int .i64 l.form.p0)).setCell (p := ⟨w.heap.size + 1, 2, none⟩) (by show w.heap.size ≤ w.heap.size + 1; omega) (.int .i64 l.form.p1)).setCell (p := ⟨w.heap.size + 1, 3, none⟩) (by show w.heap.size ≤ w.heap.size + 1; omega) (.int .i64 l.form.p2)).setCell (p := ⟨w.heap.size + 1, 4, none⟩) (by show w.heap.size ≤ w.heap.size + 1; omega) (.int .i64 l.form.p3)
    generalize hW5 : ((((W.setCell ⟨w.heap.size + 1, 0, none⟩ (.int .i64 l.form.c)).setCell ⟨w.heap.size + 1, 1, none⟩ (.int .i64 l.form.p0)).setCell ⟨w.heap.size + 1, 2, none⟩ (.int .i64 l.form.p1)).setCell ⟨w.heap.size + 1, 3, none⟩ (.int .i64 l.form.p2)).setCell ⟨w.heap.size + 1, 4, none⟩ (.int .i64 l.form.p3) = W5 at s0 k0 e0 ⊢
    have hK5 := k0.same D _ hK rfl
    have s5 : Box W5 (w.heap.size + 1) l.form.cells := s0
    refine ⟨by simp, .inl ⟨_, _, rfl, run_takeDeferred hK5, ?_⟩⟩
    have hb6 : Below w.heap.size W5 (W5.putObj D (.deferred none)) := belowK_b (w := w) (Nat.le_refl _) W5 D _ _ (by omega) hK5 rfl rfl
    have s6 : Box (W5.putObj D (.deferred none)) (w.heap.size + 1) l.form.cells := ⟨s5.choose, (World.putObj_heap_other (by omega)).trans s5.choose_spec⟩
    have hres : ∀ tmps : Array Value, tmps[2]? = some (.pointer (some ⟨w.heap.size + 1, 0, none⟩)) → (results Tryz.f176 tmps).run Tryz.prog (W5.putObj D (.deferred none)) = .ok (.agg l.form.cells.toArray) (W5.putObj D (.deferred none)) := by
      intro tmps ht
      refine Res.cellA (P := Tryz.prog) (fn := Tryz.f176) (e := [(2, .pointer (some ⟨w.heap.size + 1, 0, none⟩))]) rfl rfl Tryz.isAgg63 Tryz.sizeOf63 rfl s6 tmps.size ⟨tmps, []⟩ ⟨rfl, rfl, fun t v h => ?_⟩
      rw [look_cons] at h
      by_cases h2 : 2 = t
      · subst h2; rw [if_pos rfl] at h; cases h; exact ht
      · rw [if_neg h2] at h; cases h
    exact ⟨_, hres _ rfl, rfl, e0.trans hb6⟩
  case stop =>
    rintro D c pre W _ _ h _
    exact h.elim
theorem form_runs (l : L) (w0 : World) : Runs Tryz.prog 176 #[.agg l.cells.toArray] w0 fun v w' => v = .agg (L.form l).cells.toArray ∧ Ext w0 w' := by
  have h := callsIn_wide.1 (form_in _ 3 trivial trivial trivial rfl (by omega) l w0)
  refine Calls.mono h ?_
  rintro e w' ⟨rfl, hb⟩
  exact ⟨_, rfl, rfl, Ext.of_below hb⟩
end Go.Proofs.YtfljbnhhkdaobaaGreat

/-
  Names that may be.
-/
namespace Go.Proofs.YtfljbnhhkdaobaaGreat
open Go Go.RowKit Go.Proofs.Bw
set_option linter.unusedVariables false
set_option linter.unusedSimpArgs false
set_option maxRecDepth 20000 in
theorem rname_runs (s : ByteArray) (hsz : s.size ≤ 9223372036854775807) (w0 : World) : Runs Tryz.prog 129 #[.string s] w0 fun v w' => v = .bool (nameB s) ∧ Ext w0 w' := by
  refine Runs.of_vc cx_ok [0, 2, 3, 4, 5, 9, 50] [.v _] Tryz.func129 rfl rfl rfl (Holds.nil _) ?_
  refine vLoop_upd (σ := Nat) [2, 3, 4, 5, 6, 7, 8, 9, 10, 11, 12, 13, 14, 15, 16, 17, 18, 19, 20, 21, 22, 23, 24, 25, 26, 27, 28, 29, 30, 31, 32, 33, 34, 35, 36, 37, 38, 39, 40, 41, 42, 43, 44, 45, 46, 47, 48, 49, 50] (fun q => [(3, .v (.int .i64 q))]) [] (fun _ => []) (fun q w' => Ext w0 w' ∧ q ≤ s.size ∧ nameTo s q = true) (fun q => s.size - q) 0 (fun _ => ⟨rfl, rfl⟩)
    ⟨(by repeat (first | exact trivial | refine And.intro rfl ?_)), (by repeat (first | exact trivial | refine And.intro rfl ?_)), (by repeat (first | exact trivial | refine And.intro rfl ?_)), (by repeat (first | exact trivial | refine And.intro rfl ?_)), Ext.refl _, Nat.zero_le _, rfl⟩ ?_
  rintro q w1 hh ⟨x1, hq, hn⟩
  refine Or.inl (And.intro (fun h => ?_) (fun h => ?_))
  · have hlt := of_decide_eq_true h
    refine vsd (by omega) ?_
    have e : (Int.toNat (q : Int)) = q := Int.toNat_natCast q
    refine Or.inl (And.intro (fun h => ?_) (fun h => ?_))
    · refine And.intro (congrArg Value.bool ?_) x1
      refine (nameB_no s q (by omega) ?_).symm
      rw [e] at h
      simp only [sel, Bool.or_eq_true, Bool.and_eq_true, Bool.not_eq_true', Bool.not_eq_false', decide_eq_true_eq, decide_eq_false_iff_not, Bool.or_eq_false_iff, Bool.and_eq_false_iff, Bool.and_false, Bool.or_false, Bool.and_true, Bool.or_true, Bool.true_and, Bool.false_or, Bool.true_or, Bool.false_and, Bool.false_eq_true, Bool.true_eq_false, or_false, false_or, and_true, true_and, Bool.not_true, Bool.not_false] at h
      exact (letterN_false (by omega)).symm
    · refine vsd (by simp only [inKind]; omega) ?_
      rw [e] at h
      simp only [sel, Bool.or_eq_true, Bool.and_eq_true, Bool.not_eq_true', Bool.not_eq_false', decide_eq_true_eq, decide_eq_false_iff_not, Bool.or_eq_false_iff, Bool.and_eq_false_iff, Bool.and_false, Bool.or_false, Bool.and_true, Bool.or_true, Bool.true_and, Bool.false_or, Bool.true_or, Bool.false_and, Bool.false_eq_true, Bool.true_eq_false, or_false, false_or, and_true, true_and, Bool.not_true, Bool.not_false] at h
      have hl := (letterN_true (c := s[q]!.toNat) (by omega)).symm
      exact Exists.intro ((q + 1)) ⟨by omega, esub_over (by repeat (first | exact trivial | refine And.intro rfl ?_)) (by repeat (first | exact trivial | refine And.intro rfl ?_)), hsub_over (by repeat (first | exact trivial | refine And.intro rfl ?_)) (by repeat (first | exact trivial | refine And.intro rfl ?_)), x1, by omega, by rw [nameTo_succ s q (by omega), hn, hl]; rfl⟩
  · have hge := of_decide_eq_false h
    have hqs : q = s.size := by omega
    subst hqs
    refine And.intro (congrArg Value.bool ?_) x1
    rw [← nameTo_size, hn, Bool.true_and, Bool.eq_iff_iff]
    simp only [sel, Bool.or_eq_true, Bool.and_eq_true, Bool.not_eq_true', Bool.not_eq_false', decide_eq_true_eq, decide_eq_false_iff_not, Bool.or_eq_false_iff, Bool.and_eq_false_iff, Bool.and_false, Bool.or_false, Bool.and_true, Bool.or_true, Bool.true_and, Bool.false_or, Bool.true_or, Bool.false_and, Bool.false_eq_true, Bool.true_eq_false, or_false, false_or, and_true, true_and, Bool.not_true, Bool.not_false]
    omega
set_option maxRecDepth 20000 in
theorem tname_runs (s : ByteArray) (hsz : s.size ≤ 9223372036854775807) (w0 : World) : Runs Tryz.prog 90 #[.string s] w0 fun v w' => v = .bool (nameB s) ∧ Ext w0 w' := by
  refine Runs.of_vc cx_ok [0, 2, 4, 6, 7, 8, 9, 12, 25] [.v _] Tryz.func90 rfl rfl rfl (Holds.nil _) ?_
  refine OpT.strBytes Tryz.underlying9 Tryz.underlying147 Tryz.underlying5 rfl hsz fun w1 b c eb x1 z1 hS hc hc2 => ?_
  refine Lands.v ((Holds.nil w0).ext x1) ?_
  refine vLoop_upd (σ := Nat) [2, 4, 8, 9, 10, 11, 12, 13, 14, 15, 16, 17, 18, 19, 20, 21, 22, 23, 24, 25, 26, 27, 28, 29, 30, 31, 32, 33, 34, 35, 36, 37, 38] (fun q => [(8, .v (.int .i64 q))]) [] (fun _ => []) (fun q w' => Ext w1 w' ∧ q ≤ s.size ∧ nameTo s q = true) (fun q => s.size - q) 0 (fun _ => ⟨rfl, rfl⟩)
    ⟨(by repeat (first | exact trivial | refine And.intro rfl ?_)), (by repeat (first | exact trivial | refine And.intro rfl ?_)), (by repeat (first | exact trivial | refine And.intro rfl ?_)), (by repeat (first | exact trivial | refine And.intro rfl ?_)), Ext.refl _, Nat.zero_le _, rfl⟩ ?_
  rintro q w2 hh ⟨x2, hq, hn⟩
  refine Or.inl (And.intro (fun h => ?_) (fun h => ?_))
  · have hlt := of_decide_eq_true h
    obtain ⟨a, ha, hcell⟩ := (hS.ext x2) q (by omega)
    refine OpT.indexAddr Tryz.underlying147 Tryz.sizeOf5 rfl rfl ha (by first | omega | (simp only [lenOk] at *; omega)) ?_; refine Lands.v hh ?_
    refine OpT.load Tryz.isAgg5 rfl hcell ?_
    refine Lands.v hh ?_
    refine Or.inl (And.intro (fun h => ?_) (fun h => ?_))
    · refine vsd (by simp only [inKind]; omega) ?_
      simp only [sel, Bool.or_eq_true, Bool.and_eq_true, Bool.not_eq_true', Bool.not_eq_false', decide_eq_true_eq, decide_eq_false_iff_not, Bool.or_eq_false_iff, Bool.and_eq_false_iff, Bool.and_false, Bool.or_false, Bool.and_true, Bool.or_true, Bool.true_and, Bool.false_or, Bool.true_or, Bool.false_and, Bool.false_eq_true, Bool.true_eq_false, or_false, false_or, and_true, true_and, Bool.not_true, Bool.not_false] at h
      have hl := (letterN_true (c := s[q]!.toNat) (by omega)).symm
      exact Exists.intro ((q + 1)) ⟨by omega, esub_over (by repeat (first | exact trivial | refine And.intro rfl ?_)) (by repeat (first | exact trivial | refine And.intro rfl ?_)), hsub_over (by repeat (first | exact trivial | refine And.intro rfl ?_)) (by repeat (first | exact trivial | refine And.intro rfl ?_)), x2, by omega, by rw [nameTo_succ s q (by omega), hn, hl]; rfl⟩
    · have h1 := h
      simp only [sel, Bool.or_eq_true, Bool.and_eq_true, Bool.not_eq_true', Bool.not_eq_false', decide_eq_true_eq, decide_eq_false_iff_not, Bool.or_eq_false_iff, Bool.and_eq_false_iff, Bool.and_false, Bool.or_false, Bool.and_true, Bool.or_true, Bool.true_and, Bool.false_or, Bool.true_or, Bool.false_and, Bool.false_eq_true, Bool.true_eq_false, or_false, false_or, and_true, true_and, Bool.not_true, Bool.not_false] at h1
      refine Or.inl (And.intro (fun h => ?_) (fun h => ?_))
      · refine vsd (by simp only [inKind]; omega) ?_
        simp only [sel, Bool.or_eq_true, Bool.and_eq_true, Bool.not_eq_true', Bool.not_eq_false', decide_eq_true_eq, decide_eq_false_iff_not, Bool.or_eq_false_iff, Bool.and_eq_false_iff, Bool.and_false, Bool.or_false, Bool.and_true, Bool.or_true, Bool.true_and, Bool.false_or, Bool.true_or, Bool.false_and, Bool.false_eq_true, Bool.true_eq_false, or_false, false_or, and_true, true_and, Bool.not_true, Bool.not_false] at h
        have hl := (letterN_true (c := s[q]!.toNat) (by omega)).symm
        exact Exists.intro ((q + 1)) ⟨by omega, esub_over (by repeat (first | exact trivial | refine And.intro rfl ?_)) (by repeat (first | exact trivial | refine And.intro rfl ?_)), hsub_over (by repeat (first | exact trivial | refine And.intro rfl ?_)) (by repeat (first | exact trivial | refine And.intro rfl ?_)), x2, by omega, by rw [nameTo_succ s q (by omega), hn, hl]; rfl⟩
      · simp only [sel, Bool.or_eq_true, Bool.and_eq_true, Bool.not_eq_true', Bool.not_eq_false', decide_eq_true_eq, decide_eq_false_iff_not, Bool.or_eq_false_iff, Bool.and_eq_false_iff, Bool.and_false, Bool.or_false, Bool.and_true, Bool.or_true, Bool.true_and, Bool.false_or, Bool.true_or, Bool.false_and, Bool.false_eq_true, Bool.true_eq_false, or_false, false_or, and_true, true_and, Bool.not_true, Bool.not_false] at h
        refine And.intro (congrArg Value.bool ?_) (x1.trans x2)
        exact (nameB_no s q (by omega) (letterN_false (by omega)).symm).symm
  · have hge := of_decide_eq_false h
    have hqs : q = s.size := by omega
    subst hqs
    refine And.intro (congrArg Value.bool ?_) (x1.trans x2)
    rw [← nameTo_size, hn, Bool.true_and, Bool.eq_iff_iff]
    simp only [sel, Bool.or_eq_true, Bool.and_eq_true, Bool.not_eq_true', Bool.not_eq_false', decide_eq_true_eq, decide_eq_false_iff_not, Bool.or_eq_false_iff, Bool.and_eq_false_iff, Bool.and_false, Bool.or_false, Bool.and_true, Bool.or_true, Bool.true_and, Bool.false_or, Bool.true_or, Bool.false_and, Bool.false_eq_true, Bool.true_eq_false, or_false, false_or, and_true, true_and, Bool.not_true, Bool.not_false, bytes_nil]
    omega
set_option maxRecDepth 20000 in
theorem rmay_runs (l : L) (w0 : World) : Runs Tryz.prog 136 #[.agg l.cells.toArray] w0 fun v w' => v = .bool l.may ∧ Ext w0 w' := by
  refine Runs.of_vc (ρ := []) cx_ok [0, 1, 2, 3, 11, 13, 48] [.a [.v (.int .i64 l.c), .v (.int .i64 l.p0), .v (.int .i64 l.p1), .v (.int .i64 l.p2), .v (.int .i64 l.p3)]] Tryz.func136 rfl rfl rfl (Holds.nil w0) ?_
  intro g1 w1 e1 x1 z1 hh1
  refine Or.inl (And.intro (fun h => ?_) (fun h => ?_))
  · refine And.intro (congrArg Value.bool ?_) x1
    simp only [sel, Bool.or_eq_true, Bool.and_eq_true, Bool.not_eq_true', Bool.not_eq_false', decide_eq_true_eq, decide_eq_false_iff_not, Bool.or_eq_false_iff, Bool.and_eq_false_iff, Bool.and_false, Bool.or_false, Bool.and_true, Bool.or_true, Bool.true_and, Bool.false_or, Bool.true_or, Bool.false_and, Bool.false_eq_true, Bool.true_eq_false, or_false, false_or, and_true, true_and, Bool.not_true, Bool.not_false] at h
    exact (L.may_no (by omega)).symm
  have hc : 0 ≤ l.c ∧ l.c ≤ 1099511627776 := by simp only [sel, Bool.or_eq_true, Bool.and_eq_true, Bool.not_eq_true', Bool.not_eq_false', decide_eq_true_eq, decide_eq_false_iff_not, Bool.or_eq_false_iff, Bool.and_eq_false_iff, Bool.and_false, Bool.or_false, Bool.and_true, Bool.or_true, Bool.true_and, Bool.false_or, Bool.true_or, Bool.false_and, Bool.false_eq_true, Bool.true_eq_false, or_false, false_or, and_true, true_and, Bool.not_true, Bool.not_false] at h; omega
  refine vLoop_upd (σ := Nat) [2, 3, 12, 13, 14, 15, 16, 17, 18, 19, 20, 21, 22, 23, 24, 25, 26, 27, 28, 29, 30, 31, 32, 33, 34, 35, 36, 37, 38, 39, 40, 41, 42, 43, 44, 45, 46, 47, 48] (fun q => [(3, .v (.int .i64 q))]) [] (fun _ => []) (fun q w' => Ext w0 w' ∧ q ≤ 4 ∧ ∀ i, i < q → l.okAt i = true) (fun q => 4 - q) 0 (fun _ => ⟨rfl, rfl⟩)
    ⟨(by repeat (first | exact trivial | refine And.intro rfl ?_)), (by repeat (first | exact trivial | refine And.intro rfl ?_)), (by repeat (first | exact trivial | refine And.intro rfl ?_)), (by repeat (first | exact trivial | refine And.intro rfl ?_)), x1, Nat.zero_le _, fun i hi => by omega⟩ ?_
  rintro q w2 hh2 ⟨x2, hq, hok⟩
  refine Or.inl (And.intro (fun h => ?_) (fun h => ?_))
  · have hlt : q < 4 := by have := of_decide_eq_true h; omega
    have hend : ∀ b : Bool, b = !l.okAt q → (b = true → false = l.may) ∧ (b = false → l.okAt q = true) := fun b hb => ⟨fun hb1 => (L.may_noAt hlt (by rw [hb1] at hb; simpa using hb.symm)).symm, fun hb1 => by rw [hb1] at hb; simpa using hb.symm⟩
    have h4 : q = 0 ∨ q = 1 ∨ q = 2 ∨ q = 3 := by omega
    refine vDrw_mk [] (.one 0 (.one 1 (.one 2 (.one 3 (.one 4 (.one 5 (.one 6 (.one 7 (.one 8 (.one 9 (.one 10 (.one 11 (.one 12 (.one 13 (.one 14 (.one 15 (.one 16 (.one 17 (.one 18 (.one 19 (.one 20 (.one 21 (.one 22 (.one 23 (.one 24 (.one 25 (.one 26 (.one 27 (.one 28 (.one 29 (.one 30 (.one 31 (.one 32 .nil))))))))))))))))))))))))))))))))) rfl fun w3 x3 hh3 => ?_
    rcases h4 with rfl | rfl | rfl | rfl
    · refine Exists.intro (.p 0 1) (And.intro rfl (And.intro (fun w' xx hh => OpT.indexAddrArr Tryz.underlying61 Tryz.sizeOf3 rfl rfl (by simp) ⟨rfl, rfl⟩) ?_))
      refine Exists.intro (.p 0 1) (And.intro rfl (And.intro (fun w' xx hh _ => OpT.indexAddrArr Tryz.underlying61 Tryz.sizeOf3 rfl rfl (by simp) ⟨rfl, rfl⟩) ?_))
      refine Exists.intro (.p 0 1) (And.intro rfl (And.intro (fun w' xx hh _ => OpT.indexAddrArr Tryz.underlying61 Tryz.sizeOf3 rfl rfl (by simp) ⟨rfl, rfl⟩) ?_))
      refine Exists.intro (.p 0 1) (And.intro rfl (And.intro (fun w' xx hh _ _ => OpT.indexAddrArr Tryz.underlying61 Tryz.sizeOf3 rfl rfl (by simp) ⟨rfl, rfl⟩) ?_))
      refine Or.inl (And.intro (fun h => ?_) (fun h => ?_))
      · refine ⟨congrArg Value.bool ((hend _ ?_).1 h), x2.trans x3⟩
        rw [Bool.eq_iff_iff]; simp only [sel, Bool.or_eq_true, Bool.and_eq_true, Bool.not_eq_true', Bool.not_eq_false', decide_eq_true_eq, decide_eq_false_iff_not, Bool.or_eq_false_iff, Bool.and_eq_false_iff, Bool.and_false, Bool.or_false, Bool.and_true, Bool.or_true, Bool.true_and, Bool.false_or, Bool.true_or, Bool.false_and, Bool.false_eq_true, Bool.true_eq_false, or_false, false_or, and_true, true_and, Bool.not_true, Bool.not_false, L.okAt, L.p]; omega
      · have hq1 := (hend _ (by rw [Bool.eq_iff_iff]; simp only [sel, Bool.or_eq_true, Bool.and_eq_true, Bool.not_eq_true', Bool.not_eq_false', decide_eq_true_eq, decide_eq_false_iff_not, Bool.or_eq_false_iff, Bool.and_eq_false_iff, Bool.and_false, Bool.or_false, Bool.and_true, Bool.or_true, Bool.true_and, Bool.false_or, Bool.true_or, Bool.false_and, Bool.false_eq_true, Bool.true_eq_false, or_false, false_or, and_true, true_and, Bool.not_true, Bool.not_false, L.okAt, L.p]; omega)).2 h
        have hok1 : ∀ i, i < 0 + 1 → l.okAt i = true := fun i hi => by
          by_cases hiq : i = 0
          · subst hiq; exact hq1
          · exact hok i (by omega)
        refine vsd (by simp only [inKind]; omega) ?_
        exact Exists.intro ((0 + 1)) ⟨by omega, esub_over (by repeat (first | exact trivial | refine And.intro rfl ?_)) (by repeat (first | exact trivial | refine And.intro rfl ?_)), hsub_over (by repeat (first | exact trivial | refine And.intro rfl ?_)) (by repeat (first | exact trivial | refine And.intro rfl ?_)), x2.trans x3, by omega, hok1⟩
    · refine Exists.intro (.p 0 2) (And.intro rfl (And.intro (fun w' xx hh => OpT.indexAddrArr Tryz.underlying61 Tryz.sizeOf3 rfl rfl (by simp) ⟨rfl, rfl⟩) ?_))
      refine Exists.intro (.p 0 2) (And.intro rfl (And.intro (fun w' xx hh _ => OpT.indexAddrArr Tryz.underlying61 Tryz.sizeOf3 rfl rfl (by simp) ⟨rfl, rfl⟩) ?_))
      refine Exists.intro (.p 0 2) (And.intro rfl (And.intro (fun w' xx hh _ => OpT.indexAddrArr Tryz.underlying61 Tryz.sizeOf3 rfl rfl (by simp) ⟨rfl, rfl⟩) ?_))
      refine Exists.intro (.p 0 2) (And.intro rfl (And.intro (fun w' xx hh _ _ => OpT.indexAddrArr Tryz.underlying61 Tryz.sizeOf3 rfl rfl (by simp) ⟨rfl, rfl⟩) ?_))
      refine Or.inl (And.intro (fun h => ?_) (fun h => ?_))
      · refine ⟨congrArg Value.bool ((hend _ ?_).1 h), x2.trans x3⟩
        rw [Bool.eq_iff_iff]; simp only [sel, Bool.or_eq_true, Bool.and_eq_true, Bool.not_eq_true', Bool.not_eq_false', decide_eq_true_eq, decide_eq_false_iff_not, Bool.or_eq_false_iff, Bool.and_eq_false_iff, Bool.and_false, Bool.or_false, Bool.and_true, Bool.or_true, Bool.true_and, Bool.false_or, Bool.true_or, Bool.false_and, Bool.false_eq_true, Bool.true_eq_false, or_false, false_or, and_true, true_and, Bool.not_true, Bool.not_false, L.okAt, L.p]; omega
      · have hq1 := (hend _ (by rw [Bool.eq_iff_iff]; simp only [sel, Bool.or_eq_true, Bool.and_eq_true, Bool.not_eq_true', Bool.not_eq_false', decide_eq_true_eq, decide_eq_false_iff_not, Bool.or_eq_false_iff, Bool.and_eq_false_iff, Bool.and_false, Bool.or_false, Bool.and_true, Bool.or_true, Bool.true_and, Bool.false_or, Bool.true_or, Bool.false_and, Bool.false_eq_true, Bool.true_eq_false, or_false, false_or, and_true, true_and, Bool.not_true, Bool.not_false, L.okAt, L.p]; omega)).2 h
        have hok1 : ∀ i, i < 1 + 1 → l.okAt i = true := fun i hi => by
          by_cases hiq : i = 1
          · subst hiq; exact hq1
          · exact hok i (by omega)
        refine vsd (by simp only [inKind]; omega) ?_
        exact Exists.intro ((1 + 1)) ⟨by omega, esub_over (by repeat (first | exact trivial | refine And.intro rfl ?_)) (by repeat (first | exact trivial | refine And.intro rfl ?_)), hsub_over (by repeat (first | exact trivial | refine And.intro rfl ?_)) (by repeat (first | exact trivial | refine And.intro rfl ?_)), x2.trans x3, by omega, hok1⟩
    · refine Exists.intro (.p 0 3) (And.intro rfl (And.intro (fun w' xx hh => OpT.indexAddrArr Tryz.underlying61 Tryz.sizeOf3 rfl rfl (by simp) ⟨rfl, rfl⟩) ?_))
      refine Exists.intro (.p 0 3) (And.intro rfl (And.intro (fun w' xx hh _ => OpT.indexAddrArr Tryz.underlying61 Tryz.sizeOf3 rfl rfl (by simp) ⟨rfl, rfl⟩) ?_))
      refine Exists.intro (.p 0 3) (And.intro rfl (And.intro (fun w' xx hh _ => OpT.indexAddrArr Tryz.underlying61 Tryz.sizeOf3 rfl rfl (by simp) ⟨rfl, rfl⟩) ?_))
      refine Exists.intro (.p 0 3) (And.intro rfl (And.intro (fun w' xx hh _ _ => OpT.indexAddrArr Tryz.underlying61 Tryz.sizeOf3 rfl rfl (by simp) ⟨rfl, rfl⟩) ?_))
      refine Or.inl (And.intro (fun h => ?_) (fun h => ?_))
      · refine ⟨congrArg Value.bool ((hend _ ?_).1 h), x2.trans x3⟩
        rw [Bool.eq_iff_iff]; simp only [sel, Bool.or_eq_true, Bool.and_eq_true, Bool.not_eq_true', Bool.not_eq_false', decide_eq_true_eq, decide_eq_false_iff_not, Bool.or_eq_false_iff, Bool.and_eq_false_iff, Bool.and_false, Bool.or_false, Bool.and_true, Bool.or_true, Bool.true_and, Bool.false_or, Bool.true_or, Bool.false_and, Bool.false_eq_true, Bool.true_eq_false, or_false, false_or, and_true, true_and, Bool.not_true, Bool.not_false, L.okAt, L.p]; omega
      · have hq1 := (hend _ (by rw [Bool.eq_iff_iff]; simp only [sel, Bool.or_eq_true, Bool.and_eq_true, Bool.not_eq_true', Bool.not_eq_false', decide_eq_true_eq, decide_eq_false_iff_not, Bool.or_eq_false_iff, Bool.and_eq_false_iff, Bool.and_false, Bool.or_false, Bool.and_true, Bool.or_true, Bool.true_and, Bool.false_or, Bool.true_or, Bool.false_and, Bool.false_eq_true, Bool.true_eq_false, or_false, false_or, and_true, true_and, Bool.not_true, Bool.not_false, L.okAt, L.p]; omega)).2 h
        have hok1 : ∀ i, i < 2 + 1 → l.okAt i = true := fun i hi => by
          by_cases hiq : i = 2
          · subst hiq; exact hq1
          · exact hok i (by omega)
        refine vsd (by simp only [inKind]; omega) ?_
        exact Exists.intro ((2 + 1)) ⟨by omega, esub_over (by repeat (first | exact trivial | refine And.intro rfl ?_)) (by repeat (first | exact trivial | refine And.intro rfl ?_)), hsub_over (by repeat (first | exact trivial | refine And.intro rfl ?_)) (by repeat (first | exact trivial | refine And.intro rfl ?_)), x2.trans x3, by omega, hok1⟩
    · refine Exists.intro (.p 0 4) (And.intro rfl (And.intro (fun w' xx hh => OpT.indexAddrArr Tryz.underlying61 Tryz.sizeOf3 rfl rfl (by simp) ⟨rfl, rfl⟩) ?_))
      refine Exists.intro (.p 0 4) (And.intro rfl (And.intro (fun w' xx hh _ => OpT.indexAddrArr Tryz.underlying61 Tryz.sizeOf3 rfl rfl (by simp) ⟨rfl, rfl⟩) ?_))
      refine Exists.intro (.p 0 4) (And.intro rfl (And.intro (fun w' xx hh _ => OpT.indexAddrArr Tryz.underlying61 Tryz.sizeOf3 rfl rfl (by simp) ⟨rfl, rfl⟩) ?_))
      refine Exists.intro (.p 0 4) (And.intro rfl (And.intro (fun w' xx hh _ _ => OpT.indexAddrArr Tryz.underlying61 Tryz.sizeOf3 rfl rfl (by simp) ⟨rfl, rfl⟩) ?_))
      refine Or.inl (And.intro (fun h => ?_) (fun h => ?_))
      · refine ⟨congrArg Value.bool ((hend _ ?_).1 h), x2.trans x3⟩
        rw [Bool.eq_iff_iff]; simp only [sel, Bool.or_eq_true, Bool.and_eq_true, Bool.not_eq_true', Bool.not_eq_false', decide_eq_true_eq, decide_eq_false_iff_not, Bool.or_eq_false_iff, Bool.and_eq_false_iff, Bool.and_false, Bool.or_false, Bool.and_true, Bool.or_true, Bool.true_and, Bool.false_or, Bool.true_or, Bool.false_and, Bool.false_eq_true, Bool.true_eq_false, or_false, false_or, and_true, true_and, Bool.not_true, Bool.not_false, L.okAt, L.p]; omega
      · have hq1 := (hend _ (by rw [Bool.eq_iff_iff]; simp only [sel, Bool.or_eq_true, Bool.and_eq_true, Bool.not_eq_true', Bool.not_eq_false', decide_eq_true_eq, decide_eq_false_iff_not, Bool.or_eq_false_iff, Bool.and_eq_false_iff, Bool.and_false, Bool.or_false, Bool.and_true, Bool.or_true, Bool.true_and, Bool.false_or, Bool.true_or, Bool.false_and, Bool.false_eq_true, Bool.true_eq_false, or_false, false_or, and_true, true_and, Bool.not_true, Bool.not_false, L.okAt, L.p]; omega)).2 h
        have hok1 : ∀ i, i < 3 + 1 → l.okAt i = true := fun i hi => by
          by_cases hiq : i = 3
          · subst hiq; exact hq1
          · exact hok i (by omega)
        refine vsd (by simp only [inKind]; omega) ?_
        exact Exists.intro ((3 + 1)) ⟨by omega, esub_over (by repeat (first | exact trivial | refine And.intro rfl ?_)) (by repeat (first | exact trivial | refine And.intro rfl ?_)), hsub_over (by repeat (first | exact trivial | refine And.intro rfl ?_)) (by repeat (first | exact trivial | refine And.intro rfl ?_)), x2.trans x3, by omega, hok1⟩
  · have hge := of_decide_eq_false h
    exact ⟨congrArg Value.bool (L.may_yes hc fun i hi => hok i (by omega)).symm, x2⟩
theorem rkids_runs (k : Int) (w0 : World) : Runs Tryz.prog 135 #[.int .u8 k] w0 fun v w' => v = .int .i64 (kidsI k) ∧ Ext w0 w' := by
  refine Runs.of_vc cx_ok [0, 2, 3, 4, 8, 12, 14] [.v _] Tryz.func135 rfl rfl rfl (Holds.nil _) ?_
  repeat' (first | refine Or.inl (And.intro (fun h => ?_) (fun h => ?_)) | fail)
  all_goals refine And.intro (congrArg (Value.int .i64) ?_) (Ext.refl _)
  all_goals
    simp only [sel, Bool.or_eq_true, Bool.and_eq_true, Bool.not_eq_true', Bool.not_eq_false', decide_eq_true_eq, decide_eq_false_iff_not, Bool.or_eq_false_iff, Bool.and_eq_false_iff, Bool.and_false, Bool.or_false, Bool.and_true, Bool.or_true, Bool.true_and, Bool.false_or, Bool.true_or, Bool.false_and, Bool.false_eq_true, Bool.true_eq_false, or_false, false_or, and_true, true_and, Bool.not_true, Bool.not_false] at *
    unfold kidsI
    repeat' split
    all_goals omega
end Go.Proofs.YtfljbnhhkdaobaaGreat

/-
  What functions of the program compute, step by step (printed by a program of this work), part 1.
-/
namespace Go.Proofs.YtfljbnhhkdaobaaGreat
open Go Go.RowKit Go.Proofs.Bw
set_option linter.unusedVariables false
set_option linter.unusedSimpArgs false
set_option maxHeartbeats 1000000 in
set_option maxRecDepth 20000 in
theorem kids_runs (k : Int) (w0 : World) : Runs Tryz.prog 158 #[.int .u8 k] w0 fun v w' => v = .tuple #[.int .i64 (if kidsI k < 0 then 0 else kidsI k), .bool (decide (0 ≤ kidsI k))] ∧ Ext w0 w' := by
  refine Runs.of_W (vs := [_]) Tryz.func158 rfl rfl ?_
  refine W.seqK fun K1 hK1 => ?_
  refine W.region ?_
  refine Rg.od rfl rfl rfl (OpT.assign rfl ?_)
  refine Rg.od rfl rfl rfl (OpT.assign rfl ?_)
  refine Rg.nil ?_
  refine hK1 _ _ ?_
  refine W.seqK fun K2 hK2 => ?_
  refine W.seqK fun K3 hK3 => ?_
  refine W.region ?_
  refine Rg.od rfl rfl rfl (OpT.move rfl ?_)
  refine Rg.nil ?_
  refine hK3 _ _ ?_
  refine W.block ?_
  refine W.seqK fun K4 hK4 => ?_
  refine W.block ?_
  refine W.seqK fun K5 hK5 => ?_
  refine W.block ?_
  refine W.seqK fun K6 hK6 => ?_
  refine W.block ?_
  refine W.seqK fun K7 hK7 => ?_
  refine W.block ?_
  refine W.seqK fun K8 hK8 => ?_
  refine W.seqK fun K9 hK9 => ?_
  refine W.seqK fun K10 hK10 => ?_
  refine W.region ?_
  refine Rg.od rfl rfl rfl (OpT.eqlI rfl rfl ?_)
  refine Rg.od rfl rfl rfl (OpT.assign rfl ?_)
  refine Rg.nil ?_
  refine hK10 _ _ ?_
  rcases Bool.eq_false_or_eq_true (decide (k = 7)) with hb11 | hb11
  · have hp11 := of_decide_eq_true hb11
    refine W.condTb rfl hb11 ?_
    refine W.exit ?_
    refine hK7 _ _ ?_
    refine W.region ?_
    refine Rg.od rfl rfl rfl (OpT.move rfl ?_)
    refine Rg.od rfl rfl rfl (OpT.add rfl rfl (by omega) ?_)
    refine Rg.od rfl rfl rfl (OpT.assign rfl ?_)
    refine Rg.nil ?_
    refine hK6 _ _ ?_
    refine W.region ?_
    refine Rg.od rfl rfl rfl (OpT.move rfl ?_)
    refine Rg.od rfl rfl rfl (OpT.add rfl rfl (by omega) ?_)
    refine Rg.od rfl rfl rfl (OpT.assign rfl ?_)
    refine Rg.nil ?_
    refine hK5 _ _ ?_
    refine W.region ?_
    refine Rg.od rfl rfl rfl (OpT.move rfl ?_)
    refine Rg.od rfl rfl rfl (OpT.add rfl rfl (by omega) ?_)
    refine Rg.od rfl rfl rfl (OpT.assign rfl ?_)
    refine Rg.nil ?_
    refine hK4 _ _ ?_
    refine W.seqK fun K12 hK12 => ?_
    refine W.seqK fun K13 hK13 => ?_
    refine W.region ?_
    refine Rg.od rfl rfl rfl (OpT.move rfl ?_)
    refine Rg.od rfl rfl rfl (OpT.assign rfl ?_)
    refine Rg.od rfl rfl rfl (OpT.assign rfl ?_)
    refine Rg.nil ?_
    refine hK13 _ _ ?_
    refine W.ret ?_
    refine ⟨_, Res.two rfl rfl rfl, ?_⟩
    refine ⟨congrArg Value.tuple (congrArg List.toArray ?_), (Ext.refl _)⟩
    simp only [List.cons.injEq, Value.int.injEq, Value.bool.injEq, true_and, and_true]
    unfold kidsI at *
    (repeat' split) <;> (first | omega | simp_all | (constructor <;> first | omega | (simp; omega)))
  · have hp11 := of_decide_eq_false hb11
    refine W.condFb rfl hb11 ?_
    refine W.skip ?_
    refine hK9 _ _ ?_
    refine W.seqK fun K14 hK14 => ?_
    refine W.seqK fun K15 hK15 => ?_
    refine W.seqK fun K16 hK16 => ?_
    refine W.region ?_
    refine Rg.od rfl rfl rfl (OpT.eqlI rfl rfl ?_)
    refine Rg.od rfl rfl rfl (OpT.assign rfl ?_)
    refine Rg.nil ?_
    refine hK16 _ _ ?_
    rcases Bool.eq_false_or_eq_true (decide (k = 4)) with hb17 | hb17
    · have hp17 := of_decide_eq_true hb17
      refine W.condTb rfl hb17 ?_
      refine W.skip ?_
      refine hK15 _ _ ?_
      refine W.condTb rfl hb17 ?_
      refine W.exit ?_
      refine hK6 _ _ ?_
      refine W.region ?_
      refine Rg.od rfl rfl rfl (OpT.move rfl ?_)
      refine Rg.od rfl rfl rfl (OpT.add rfl rfl (by omega) ?_)
      refine Rg.od rfl rfl rfl (OpT.assign rfl ?_)
      refine Rg.nil ?_
      refine hK5 _ _ ?_
      refine W.region ?_
      refine Rg.od rfl rfl rfl (OpT.move rfl ?_)
      refine Rg.od rfl rfl rfl (OpT.add rfl rfl (by omega) ?_)
      refine Rg.od rfl rfl rfl (OpT.assign rfl ?_)
      refine Rg.nil ?_
      refine hK4 _ _ ?_
      refine W.seqK fun K18 hK18 => ?_
      refine W.seqK fun K19 hK19 => ?_
      refine W.region ?_
      refine Rg.od rfl rfl rfl (OpT.move rfl ?_)
      refine Rg.od rfl rfl rfl (OpT.assign rfl ?_)
      refine Rg.od rfl rfl rfl (OpT.assign rfl ?_)
      refine Rg.nil ?_
      refine hK19 _ _ ?_
      refine W.ret ?_
      refine ⟨_, Res.two rfl rfl rfl, ?_⟩
      refine ⟨congrArg Value.tuple (congrArg List.toArray ?_), (Ext.refl _)⟩
      simp only [List.cons.injEq, Value.int.injEq, Value.bool.injEq, true_and, and_true]
      unfold kidsI at *
      (repeat' split) <;> (first | omega | simp_all | (constructor <;> first | omega | (simp; omega)))
    · have hp17 := of_decide_eq_false hb17
      refine W.condFb rfl hb17 ?_
      refine W.seqK fun K20 hK20 => ?_
      refine W.region ?_
      refine Rg.od rfl rfl rfl (OpT.eqlI rfl rfl ?_)
      refine Rg.od rfl rfl rfl (OpT.assign rfl ?_)
      refine Rg.nil ?_
      refine hK20 _ _ ?_
      rcases Bool.eq_false_or_eq_true (decide (k = 5)) with hb21 | hb21
      · have hp21 := of_decide_eq_true hb21
        refine W.condTb rfl hb21 ?_
        refine W.skip ?_
        refine hK15 _ _ ?_
        refine W.condTb rfl hb21 ?_
        refine W.exit ?_
        refine hK6 _ _ ?_
        refine W.region ?_
        refine Rg.od rfl rfl rfl (OpT.move rfl ?_)
        refine Rg.od rfl rfl rfl (OpT.add rfl rfl (by omega) ?_)
        refine Rg.od rfl rfl rfl (OpT.assign rfl ?_)
        refine Rg.nil ?_
        refine hK5 _ _ ?_
        refine W.region ?_
        refine Rg.od rfl rfl rfl (OpT.move rfl ?_)
        refine Rg.od rfl rfl rfl (OpT.add rfl rfl (by omega) ?_)
        refine Rg.od rfl rfl rfl (OpT.assign rfl ?_)
        refine Rg.nil ?_
        refine hK4 _ _ ?_
        refine W.seqK fun K22 hK22 => ?_
        refine W.seqK fun K23 hK23 => ?_
        refine W.region ?_
        refine Rg.od rfl rfl rfl (OpT.move rfl ?_)
        refine Rg.od rfl rfl rfl (OpT.assign rfl ?_)
        refine Rg.od rfl rfl rfl (OpT.assign rfl ?_)
        refine Rg.nil ?_
        refine hK23 _ _ ?_
        refine W.ret ?_
        refine ⟨_, Res.two rfl rfl rfl, ?_⟩
        refine ⟨congrArg Value.tuple (congrArg List.toArray ?_), (Ext.refl _)⟩
        simp only [List.cons.injEq, Value.int.injEq, Value.bool.injEq, true_and, and_true]
        unfold kidsI at *
        (repeat' split) <;> (first | omega | simp_all | (constructor <;> first | omega | (simp; omega)))
      · have hp21 := of_decide_eq_false hb21
        refine W.condFb rfl hb21 ?_
        refine W.region ?_
        refine Rg.od rfl rfl rfl (OpT.eqlI rfl rfl ?_)
        refine Rg.od rfl rfl rfl (OpT.assign rfl ?_)
        refine Rg.nil ?_
        refine hK15 _ _ ?_
        rcases Bool.eq_false_or_eq_true (decide (k = 6)) with hb24 | hb24
        · have hp24 := of_decide_eq_true hb24
          refine W.condTb rfl hb24 ?_
          refine W.exit ?_
          refine hK6 _ _ ?_
          refine W.region ?_
          refine Rg.od rfl rfl rfl (OpT.move rfl ?_)
          refine Rg.od rfl rfl rfl (OpT.add rfl rfl (by omega) ?_)
          refine Rg.od rfl rfl rfl (OpT.assign rfl ?_)
          refine Rg.nil ?_
          refine hK5 _ _ ?_
          refine W.region ?_
          refine Rg.od rfl rfl rfl (OpT.move rfl ?_)
          refine Rg.od rfl rfl rfl (OpT.add rfl rfl (by omega) ?_)
          refine Rg.od rfl rfl rfl (OpT.assign rfl ?_)
          refine Rg.nil ?_
          refine hK4 _ _ ?_
          refine W.seqK fun K25 hK25 => ?_
          refine W.seqK fun K26 hK26 => ?_
          refine W.region ?_
          refine Rg.od rfl rfl rfl (OpT.move rfl ?_)
          refine Rg.od rfl rfl rfl (OpT.assign rfl ?_)
          refine Rg.od rfl rfl rfl (OpT.assign rfl ?_)
          refine Rg.nil ?_
          refine hK26 _ _ ?_
          refine W.ret ?_
          refine ⟨_, Res.two rfl rfl rfl, ?_⟩
          refine ⟨congrArg Value.tuple (congrArg List.toArray ?_), (Ext.refl _)⟩
          simp only [List.cons.injEq, Value.int.injEq, Value.bool.injEq, true_and, and_true]
          unfold kidsI at *
          (repeat' split) <;> (first | omega | simp_all | (constructor <;> first | omega | (simp; omega)))
        · have hp24 := of_decide_eq_false hb24
          refine W.condFb rfl hb24 ?_
          refine W.skip ?_
          refine hK14 _ _ ?_
          refine W.seqK fun K27 hK27 => ?_
          refine W.seqK fun K28 hK28 => ?_
          refine W.region ?_
          refine Rg.od rfl rfl rfl (OpT.eqlI rfl rfl ?_)
          refine Rg.od rfl rfl rfl (OpT.assign rfl ?_)
          refine Rg.nil ?_
          refine hK28 _ _ ?_
          rcases Bool.eq_false_or_eq_true (decide (k = 8)) with hb29 | hb29
          · have hp29 := of_decide_eq_true hb29
            refine W.condTb rfl hb29 ?_
            refine W.exit ?_
            refine hK5 _ _ ?_
            refine W.region ?_
            refine Rg.od rfl rfl rfl (OpT.move rfl ?_)
            refine Rg.od rfl rfl rfl (OpT.add rfl rfl (by omega) ?_)
            refine Rg.od rfl rfl rfl (OpT.assign rfl ?_)
            refine Rg.nil ?_
            refine hK4 _ _ ?_
            refine W.seqK fun K30 hK30 => ?_
            refine W.seqK fun K31 hK31 => ?_
            refine W.region ?_
            refine Rg.od rfl rfl rfl (OpT.move rfl ?_)
            refine Rg.od rfl rfl rfl (OpT.assign rfl ?_)
            refine Rg.od rfl rfl rfl (OpT.assign rfl ?_)
            refine Rg.nil ?_
            refine hK31 _ _ ?_
            refine W.ret ?_
            refine ⟨_, Res.two rfl rfl rfl, ?_⟩
            refine ⟨congrArg Value.tuple (congrArg List.toArray ?_), (Ext.refl _)⟩
            simp only [List.cons.injEq, Value.int.injEq, Value.bool.injEq, true_and, and_true]
            unfold kidsI at *
            (repeat' split) <;> (first | omega | simp_all | (constructor <;> first | omega | (simp; omega)))
          · have hp29 := of_decide_eq_false hb29
            refine W.condFb rfl hb29 ?_
            refine W.skip ?_
            refine hK27 _ _ ?_
            refine W.seqK fun K32 hK32 => ?_
            refine W.seqK fun K33 hK33 => ?_
            refine W.region ?_
            refine Rg.od rfl rfl rfl (OpT.eqlI rfl rfl ?_)
            refine Rg.od rfl rfl rfl (OpT.assign rfl ?_)
            refine Rg.nil ?_
            refine hK33 _ _ ?_
            rcases Bool.eq_false_or_eq_true (decide (k = 1)) with hb34 | hb34
            · have hp34 := of_decide_eq_true hb34
              refine W.condTb rfl hb34 ?_
              refine W.skip ?_
              refine hK32 _ _ ?_
              refine W.condTb rfl hb34 ?_
              refine W.exit ?_
              refine hK4 _ _ ?_
              refine W.seqK fun K35 hK35 => ?_
              refine W.seqK fun K36 hK36 => ?_
              refine W.region ?_
              refine Rg.od rfl rfl rfl (OpT.move rfl ?_)
              refine Rg.od rfl rfl rfl (OpT.assign rfl ?_)
              refine Rg.od rfl rfl rfl (OpT.assign rfl ?_)
              refine Rg.nil ?_
              refine hK36 _ _ ?_
              refine W.ret ?_
              refine ⟨_, Res.two rfl rfl rfl, ?_⟩
              refine ⟨congrArg Value.tuple (congrArg List.toArray ?_), (Ext.refl _)⟩
              simp only [List.cons.injEq, Value.int.injEq, Value.bool.injEq, true_and, and_true]
              unfold kidsI at *
              (repeat' split) <;> (first | omega | simp_all | (constructor <;> first | omega | (simp; omega)))
            · have hp34 := of_decide_eq_false hb34
              refine W.condFb rfl hb34 ?_
              refine W.seqK fun K37 hK37 => ?_
              refine W.region ?_
              refine Rg.od rfl rfl rfl (OpT.eqlI rfl rfl ?_)
              refine Rg.od rfl rfl rfl (OpT.assign rfl ?_)
              refine Rg.nil ?_
              refine hK37 _ _ ?_
              rcases Bool.eq_false_or_eq_true (decide (k = 2)) with hb38 | hb38
              · have hp38 := of_decide_eq_true hb38
                refine W.condTb rfl hb38 ?_
                refine W.skip ?_
                refine hK32 _ _ ?_
                refine W.condTb rfl hb38 ?_
                refine W.exit ?_
                refine hK4 _ _ ?_
                refine W.seqK fun K39 hK39 => ?_
                refine W.seqK fun K40 hK40 => ?_
                refine W.region ?_
                refine Rg.od rfl rfl rfl (OpT.move rfl ?_)
                refine Rg.od rfl rfl rfl (OpT.assign rfl ?_)
                refine Rg.od rfl rfl rfl (OpT.assign rfl ?_)
                refine Rg.nil ?_
                refine hK40 _ _ ?_
                refine W.ret ?_
                refine ⟨_, Res.two rfl rfl rfl, ?_⟩
                refine ⟨congrArg Value.tuple (congrArg List.toArray ?_), (Ext.refl _)⟩
                simp only [List.cons.injEq, Value.int.injEq, Value.bool.injEq, true_and, and_true]
                unfold kidsI at *
                (repeat' split) <;> (first | omega | simp_all | (constructor <;> first | omega | (simp; omega)))
              · have hp38 := of_decide_eq_false hb38
                refine W.condFb rfl hb38 ?_
                refine W.region ?_
                refine Rg.od rfl rfl rfl (OpT.eqlI rfl rfl ?_)
                refine Rg.od rfl rfl rfl (OpT.assign rfl ?_)
                refine Rg.nil ?_
                refine hK32 _ _ ?_
                rcases Bool.eq_false_or_eq_true (decide (k = 3)) with hb41 | hb41
                · have hp41 := of_decide_eq_true hb41
                  refine W.condTb rfl hb41 ?_
                  refine W.exit ?_
                  refine hK4 _ _ ?_
                  refine W.seqK fun K42 hK42 => ?_
                  refine W.seqK fun K43 hK43 => ?_
                  refine W.region ?_
                  refine Rg.od rfl rfl rfl (OpT.move rfl ?_)
                  refine Rg.od rfl rfl rfl (OpT.assign rfl ?_)
                  refine Rg.od rfl rfl rfl (OpT.assign rfl ?_)
                  refine Rg.nil ?_
                  refine hK43 _ _ ?_
                  refine W.ret ?_
                  refine ⟨_, Res.two rfl rfl rfl, ?_⟩
                  refine ⟨congrArg Value.tuple (congrArg List.toArray ?_), (Ext.refl _)⟩
                  simp only [List.cons.injEq, Value.int.injEq, Value.bool.injEq, true_and, and_true]
                  unfold kidsI at *
                  (repeat' split) <;> (first | omega | simp_all | (constructor <;> first | omega | (simp; omega)))
                · have hp41 := of_decide_eq_false hb41
                  refine W.condFb rfl hb41 ?_
                  refine W.skip ?_
                  refine hK8 _ _ ?_
                  refine W.exit ?_
                  refine hK2 _ _ ?_
                  refine W.seqK fun K44 hK44 => ?_
                  refine W.region ?_
                  refine Rg.od rfl rfl rfl (OpT.assign rfl ?_)
                  refine Rg.od rfl rfl rfl (OpT.assign rfl ?_)
                  refine Rg.nil ?_
                  refine hK44 _ _ ?_
                  refine W.ret ?_
                  refine ⟨_, Res.two rfl rfl rfl, ?_⟩
                  refine ⟨congrArg Value.tuple (congrArg List.toArray ?_), (Ext.refl _)⟩
                  simp only [List.cons.injEq, Value.int.injEq, Value.bool.injEq, true_and, and_true]
                  unfold kidsI at *
                  (repeat' split) <;> (first | omega | simp_all | (constructor <;> first | omega | (simp; omega)))
set_option maxHeartbeats 1000000 in
set_option maxRecDepth 20000 in
theorem lmay_runs (l : L) (w0 : World) : Runs Tryz.prog 161 #[.agg l.cells.toArray] w0 fun v w' => v = .bool l.may ∧ Ext w0 w' := by
  refine Runs.of_W (vs := [_]) Tryz.func161 rfl rfl ?_
  refine W.seqK fun K1 hK1 => ?_
  refine W.region ?_
  refine Rg.od rfl rfl rfl (OpT.box rfl fun w2 g2 e2 x2 z2 b2 => ?_)
  replace b2 : Box w2 g2 [.int .i64 l.c, .int .i64 l.p0, .int .i64 l.p1, .int .i64 l.p2, .int .i64 l.p3] := b2
  refine Rg.od rfl rfl rfl (OpT.assign rfl ?_)
  refine Rg.nil ?_
  refine hK1 _ _ ?_
  refine W.seqK fun K3 hK3 => ?_
  refine W.seqK fun K4 hK4 => ?_
  refine W.region ?_
  refine Rg.od rfl rfl rfl (OpT.fieldAddrB (off := 0) Tryz.underlying63 rfl Tryz.sizeOf3 rfl rfl ?_)
  refine Rg.od rfl rfl rfl (OpT.loadB Tryz.isAgg3 rfl b2 rfl ?_)
  refine Rg.od rfl rfl rfl (OpT.lss rfl rfl ?_)
  refine Rg.od rfl rfl rfl (OpT.move rfl ?_)
  rcases Bool.eq_false_or_eq_true (decide (l.c < 0)) with hb5 | hb5
  · have hp5 := of_decide_eq_true hb5
    refine Rg.gn rfl rfl rfl rfl hb5 ?_
    refine Rg.gn rfl rfl rfl rfl hb5 ?_
    refine Rg.gn rfl rfl rfl rfl hb5 ?_
    refine Rg.od rfl rfl rfl (OpT.pickT rfl hb5 rfl ?_)
    refine Rg.nil ?_
    refine hK4 _ _ ?_
    refine W.condTb rfl rfl ?_
    refine W.seqK fun K6 hK6 => ?_
    refine W.region ?_
    refine Rg.od rfl rfl rfl (OpT.assign rfl ?_)
    refine Rg.nil ?_
    refine hK6 _ _ ?_
    refine W.ret ?_
    refine ⟨_, Res.one rfl rfl, ?_⟩
    exact ⟨congrArg Value.bool (L.may_no (by omega)).symm, x2⟩
  · have hp5 := of_decide_eq_false hb5
    refine Rg.gy rfl rfl rfl rfl hb5 (OpT.fieldAddrB (off := 0) Tryz.underlying63 rfl Tryz.sizeOf3 rfl rfl ?_)
    refine Rg.gy rfl rfl rfl rfl hb5 (OpT.loadB Tryz.isAgg3 rfl b2 rfl ?_)
    refine Rg.gy rfl rfl rfl rfl hb5 (OpT.gtr rfl rfl ?_)
    refine Rg.od rfl rfl rfl (OpT.pickF rfl hb5 rfl ?_)
    refine Rg.nil ?_
    refine hK4 _ _ ?_
    rcases Bool.eq_false_or_eq_true (decide (1099511627776 < l.c)) with hb7 | hb7
    · have hp7 := of_decide_eq_true hb7
      refine W.condTb rfl hb7 ?_
      refine W.seqK fun K8 hK8 => ?_
      refine W.region ?_
      refine Rg.od rfl rfl rfl (OpT.assign rfl ?_)
      refine Rg.nil ?_
      refine hK8 _ _ ?_
      refine W.ret ?_
      refine ⟨_, Res.one rfl rfl, ?_⟩
      exact ⟨congrArg Value.bool (L.may_no (by omega)).symm, x2⟩
    · have hp7 := of_decide_eq_false hb7
      refine W.condFb rfl hb7 ?_
      refine W.skip ?_
      refine hK3 _ _ ?_
      refine W.seqK fun K9 hK9 => ?_
      refine W.seqK fun K10 hK10 => ?_
      refine W.region ?_
      refine Rg.od rfl rfl rfl (OpT.fieldAddrB (off := 1) Tryz.underlying63 rfl Tryz.sizeOf61 rfl rfl ?_)
      refine Rg.od rfl rfl rfl (OpT.loadABo Tryz.isAgg61 Tryz.sizeOf61 rfl b2 (cs := [.int .i64 l.p0, .int .i64 l.p1, .int .i64 l.p2, .int .i64 l.p3]) rfl rfl ?_)
      refine Rg.od rfl rfl rfl (OpT.move rfl ?_)
      refine Rg.nil ?_
      refine hK10 _ _ ?_
      refine W.block ?_
      refine W.loop (σ := Nat) (fun q e w' => Sub [(0, .agg ([.int .i64 l.c, .int .i64 l.p0, .int .i64 l.p1, .int .i64 l.p2, .int .i64 l.p3].toArray)), (1, .pointer (some ⟨g2, 0, none⟩)), (2, .bool false), (5, .pointer (some ⟨g2, 0, none⟩)), (6, .int .i64 l.c), (7, .bool (decide (l.c < 0))), (8, .bool (decide (l.c < 0))), (9, .pointer (some ⟨g2, 0, none⟩)), (10, .int .i64 l.c), (11, .bool (decide (1099511627776 < l.c))), (12, .bool (decide (1099511627776 < l.c))), (13, .pointer (some ⟨g2, 1, none⟩)), (14, .agg ([.int .i64 l.p0, .int .i64 l.p1, .int .i64 l.p2, .int .i64 l.p3].toArray)), (15, .int .i64 ((q : Nat) : Int))] e ∧ Ext w2 w' ∧ q ≤ 4 ∧ ∀ i, i < q → -1 ≤ l.p i ∧ l.p i ≤ 1099511627776) (fun q => 4 - q) 0
        ⟨⟨rfl, rfl, rfl, rfl, rfl, rfl, rfl, rfl, rfl, rfl, rfl, rfl, rfl, rfl, trivial⟩, Mod.refl _ _, by omega, fun i hi => by omega⟩ ?_
      rintro s11 en11 w11 ⟨hs11, x11, hi11_0, hi11_1⟩
      refine W.sub hs11 ?_
      refine W.seqK fun K12 hK12 => ?_
      refine W.region ?_
      refine Rg.od rfl rfl rfl (OpT.lss rfl rfl ?_)
      refine Rg.nil ?_
      refine hK12 _ _ ?_
      refine W.seqK fun K13 hK13 => ?_
      rcases Bool.eq_false_or_eq_true (decide (((s11 : Nat) : Int) < 4)) with hb14 | hb14
      · have hp14 := of_decide_eq_true hb14
        refine W.condTb rfl hb14 ?_
        refine W.skip ?_
        refine hK13 _ _ ?_
        refine W.seqK fun K15 hK15 => ?_
        refine W.block ?_
        refine W.seqK fun K16 hK16 => ?_
        refine W.region ?_
        refine Rg.od rfl rfl rfl (OpT.indexArr Tryz.underlying61 Tryz.sizeOf3 Tryz.isAgg3 rfl rfl (by omega) (levp_arr (l := l) (i := s11) (by omega)) ?_)
        refine Rg.od rfl rfl rfl (OpT.assign rfl ?_)
        refine Rg.nil ?_
        refine hK16 _ _ ?_
        refine W.seqK fun K17 hK17 => ?_
        refine W.region ?_
        refine Rg.od rfl rfl rfl (OpT.move rfl ?_)
        refine Rg.od rfl rfl rfl (OpT.lss rfl rfl ?_)
        refine Rg.od rfl rfl rfl (OpT.move rfl ?_)
        rcases Bool.eq_false_or_eq_true (decide (l.p s11 < (-1))) with hb18 | hb18
        · have hp18 := of_decide_eq_true hb18
          refine Rg.gn rfl rfl rfl rfl hb18 ?_
          refine Rg.gn rfl rfl rfl rfl hb18 ?_
          refine Rg.od rfl rfl rfl (OpT.pickT rfl hb18 rfl ?_)
          refine Rg.nil ?_
          refine hK17 _ _ ?_
          refine W.condTb rfl rfl ?_
          refine W.seqK fun K19 hK19 => ?_
          refine W.region ?_
          refine Rg.od rfl rfl rfl (OpT.assign rfl ?_)
          refine Rg.nil ?_
          refine hK19 _ _ ?_
          refine W.ret ?_
          refine ⟨_, Res.one rfl rfl, ?_⟩
          exact ⟨congrArg Value.bool (L.may_noP (i := s11) (by omega) (by omega)).symm, (x2.trans x11)⟩
        · have hp18 := of_decide_eq_false hb18
          refine Rg.gy rfl rfl rfl rfl hb18 (OpT.move rfl ?_)
          refine Rg.gy rfl rfl rfl rfl hb18 (OpT.gtr rfl rfl ?_)
          refine Rg.od rfl rfl rfl (OpT.pickF rfl hb18 rfl ?_)
          refine Rg.nil ?_
          refine hK17 _ _ ?_
          rcases Bool.eq_false_or_eq_true (decide (1099511627776 < l.p s11)) with hb20 | hb20
          · have hp20 := of_decide_eq_true hb20
            refine W.condTb rfl hb20 ?_
            refine W.seqK fun K21 hK21 => ?_
            refine W.region ?_
            refine Rg.od rfl rfl rfl (OpT.assign rfl ?_)
            refine Rg.nil ?_
            refine hK21 _ _ ?_
            refine W.ret ?_
            refine ⟨_, Res.one rfl rfl, ?_⟩
            exact ⟨congrArg Value.bool (L.may_noP (i := s11) (by omega) (by omega)).symm, (x2.trans x11)⟩
          · have hp20 := of_decide_eq_false hb20
            refine W.condFb rfl hb20 ?_
            refine W.skip ?_
            refine hK15 _ _ ?_
            refine W.region ?_
            refine Rg.od rfl rfl rfl (OpT.add rfl rfl (by omega) ?_)
            refine Rg.od rfl rfl rfl (OpT.move rfl ?_)
            refine Rg.nil ?_
            exact ⟨s11 + 1, ⟨⟨rfl, rfl, rfl, rfl, rfl, rfl, rfl, rfl, rfl, rfl, rfl, rfl, rfl, rfl, trivial⟩, x11, by omega, all_succ hi11_1 (by omega)⟩, by omega⟩
      · have hp14 := of_decide_eq_false hb14
        refine W.condFb rfl hb14 ?_
        refine W.exit ?_
        refine hK9 _ _ ?_
        refine W.seqK fun K22 hK22 => ?_
        refine W.draw (VS.ex _ :: VS.ex _ :: VS.ex _ :: VS.ex _ :: VS.ex _ :: []) mixed rfl rfl ⟨trivial, trivial, trivial, trivial, trivial, trivial⟩
          ⟨fun w' hx _ => OpT.loadAB Tryz.isAgg63 Tryz.sizeOf63 rfl (b2.ext (x11.trans hx)) rfl VS.ok,
          fun w' hx _ => OpT.call Tryz.call176 (.cons rfl .nil) (Runs.mono (form_runs _ _) fun v w h => VS.okx h.1 h.2),
          fun w' hx _ => OpT.loadAB Tryz.isAgg63 Tryz.sizeOf63 rfl (b2.ext (x11.trans hx)) rfl VS.ok,
          fun w' hx _ => OpT.eqlL (a := (L.form l)) (b := l) rfl rfl VS.ok,
          fun w' hx _ => OpT.assign rfl VS.ok,
          trivial⟩ ?_
        intro w23 x23
        refine hK22 _ _ ?_
        refine W.ret ?_
        refine ⟨_, Res.one rfl rfl, ?_⟩
        exact ⟨congrArg Value.bool (L.may_form (by omega) (fun i hi => hi11_1 i (by omega))), ((x2.trans x11).trans x23)⟩
set_option maxHeartbeats 1000000 in
set_option maxRecDepth 20000 in
theorem node1_runs (l : L) (w0 : World) : Runs Tryz.prog 160 #[.agg l.cells.toArray] w0 fun v w' => v = .bool (!l.may) ∧ Ext w0 w' := by
  refine Runs.of_W (vs := [_]) Tryz.func160 rfl rfl ?_
  refine W.seqK fun K1 hK1 => ?_
  refine W.region ?_
  refine Rg.od rfl rfl rfl (OpT.box rfl fun w2 g2 e2 x2 z2 b2 => ?_)
  replace b2 : Box w2 g2 [.int .i64 l.c, .int .i64 l.p0, .int .i64 l.p1, .int .i64 l.p2, .int .i64 l.p3] := b2
  refine Rg.od rfl rfl rfl (OpT.assign rfl ?_)
  refine Rg.nil ?_
  refine hK1 _ _ ?_
  refine W.seqK fun K3 hK3 => ?_
  refine W.region ?_
  refine Rg.od rfl rfl rfl (OpT.loadAB Tryz.isAgg63 Tryz.sizeOf63 rfl b2 rfl ?_)
  refine Rg.od rfl rfl rfl (OpT.call Tryz.call161 (.cons rfl .nil) (Runs.mono (lmay_runs _ _) ?_))
  rintro _ w4 ⟨rfl, x4⟩
  refine Rg.od rfl rfl rfl (OpT.notB rfl ?_)
  refine Rg.od rfl rfl rfl (OpT.assign rfl ?_)
  refine Rg.nil ?_
  refine hK3 _ _ ?_
  refine W.ret ?_
  refine ⟨_, Res.one rfl rfl, ?_⟩
  exact ⟨rfl, (x2.trans x4)⟩
set_option maxHeartbeats 1000000 in
set_option maxRecDepth 20000 in
theorem indexL_runs (la : Option Addr) (lc : Nat) (ls : List L) (w0 : World) (R : Nat → Prop) (hL : SlL w0 R la ls) (hl : lenOk ls.length lc) :
    Runs Tryz.prog 175 #[.slice la ls.length lc, .func (.func 160) #[] #[]] w0 fun v w' => ∃ i : Int, v = .int .i64 i ∧ (0 ≤ i ↔ ls.all L.may = false) ∧ Ext w0 w' := by
  refine Runs.of_W (vs := [_, _]) Tryz.func175 rfl rfl ?_
  refine W.seqK fun K1 hK1 => ?_
  refine W.region ?_
  refine Rg.od rfl rfl rfl (OpT.assign rfl ?_)
  refine Rg.nil ?_
  refine hK1 _ _ ?_
  refine W.seqK fun K2 hK2 => ?_
  refine W.seqK fun K3 hK3 => ?_
  refine W.region ?_
  refine Rg.od rfl rfl rfl (OpT.move rfl ?_)
  refine Rg.od rfl rfl rfl (OpT.lenS Tryz.underlying30 rfl ?_)
  refine Rg.od rfl rfl rfl (OpT.move rfl ?_)
  refine Rg.nil ?_
  refine hK3 _ _ ?_
  refine W.block ?_
  refine W.loop (σ := Nat) (fun q e w' => Sub [(0, .slice la ls.length lc), (1, .func (.func 160) #[] #[]), (4, .int .i64 0), (6, .slice la ls.length lc), (7, .int .i64 ((ls.length : Nat) : Int)), (8, .int .i64 ((q : Nat) : Int))] e ∧ Ext w0 w' ∧ q ≤ ls.length ∧ ∀ i, i < q → ∀ l, ls[i]? = some l → l.may = true) (fun q => ls.length - q) 0
    ⟨⟨rfl, rfl, rfl, rfl, rfl, rfl, trivial⟩, Mod.refl _ _, Nat.zero_le _, fun i hi => by omega⟩ ?_
  rintro s4 en4 w4 ⟨hs4, x4, hi4_0, hi4_1⟩
  refine W.sub hs4 ?_
  refine W.seqK fun K5 hK5 => ?_
  refine W.region ?_
  refine Rg.od rfl rfl rfl (OpT.lss rfl rfl ?_)
  refine Rg.nil ?_
  refine hK5 _ _ ?_
  refine W.seqK fun K6 hK6 => ?_
  rcases Bool.eq_false_or_eq_true (decide (((s4 : Nat) : Int) < ((ls.length : Nat) : Int))) with hb7 | hb7
  · have hp7 := of_decide_eq_true hb7
    refine W.condTb rfl hb7 ?_
    refine W.skip ?_
    refine hK6 _ _ ?_
    refine W.seqK fun K8 hK8 => ?_
    refine W.block ?_
    refine W.seqK fun K9 hK9 => ?_
    refine W.region ?_
    refine Rg.od rfl rfl rfl (OpT.move rfl ?_)
    refine Rg.od rfl rfl rfl (OpT.assign rfl ?_)
    refine Rg.nil ?_
    refine hK9 _ _ ?_
    refine W.seqK fun K10 hK10 => ?_
    refine W.region ?_
    refine Rg.od rfl rfl rfl (OpT.move rfl ?_)
    refine Rg.od rfl rfl rfl (OpT.move rfl ?_)
    refine Rg.od rfl rfl rfl (OpT.move rfl ?_)
    obtain ⟨a11, ha11, hr11, hw11, hv11⟩ := hL.at (i := s4) (by first | omega | (unfold lenOk at *; omega))
    refine Rg.od rfl rfl rfl (OpT.indexAddr Tryz.underlying30 Tryz.sizeOf63 rfl rfl ha11 (by first | omega | (unfold lenOk at *; omega)) ?_)
    refine Rg.od rfl rfl rfl (OpT.loadA (cs := [.int .i64 (ls[s4].c), .int .i64 (ls[s4].p0), .int .i64 (ls[s4].p1), .int .i64 (ls[s4].p2), .int .i64 (ls[s4].p3)]) Tryz.isAgg63 Tryz.sizeOf63 rfl (hw11.ext x4) ?_)
    refine Rg.od rfl rfl rfl (OpT.callV Tryz.call160 rfl (.cons rfl .nil) (Runs.mono (node1_runs _ _) ?_))
    rintro _ w12 ⟨rfl, x12⟩
    refine Rg.nil ?_
    refine hK10 _ _ ?_
    rcases Bool.eq_false_or_eq_true ((ls[s4]).may) with hb13 | hb13
    · have hp13 := hb13
      refine W.condFb rfl (nT hb13) ?_
      refine W.skip ?_
      refine hK8 _ _ ?_
      refine W.region ?_
      refine Rg.od rfl rfl rfl (OpT.add rfl rfl (by first | omega | (unfold lenOk at *; omega)) ?_)
      refine Rg.od rfl rfl rfl (OpT.move rfl ?_)
      refine Rg.nil ?_
      exact ⟨s4 + 1, ⟨⟨rfl, rfl, rfl, rfl, rfl, rfl, trivial⟩, (x4.trans x12), by omega, all_succ hi4_1 (fun l hl => by rw [List.getElem?_eq_getElem (by omega)] at hl; cases hl; exact hb13)⟩, by omega⟩
    · have hp13 := hb13
      refine W.condTb rfl (nF hb13) ?_
      refine W.seqK fun K14 hK14 => ?_
      refine W.region ?_
      refine Rg.od rfl rfl rfl (OpT.move rfl ?_)
      refine Rg.od rfl rfl rfl (OpT.assign rfl ?_)
      refine Rg.nil ?_
      refine hK14 _ _ ?_
      refine W.ret ?_
      refine ⟨_, Res.one rfl rfl, ?_⟩
      exact ⟨_, rfl, ⟨fun _ => all_no (by omega) hb13, fun _ => by omega⟩, (x4.trans x12)⟩
  · have hp7 := of_decide_eq_false hb7
    refine W.condFb rfl hb7 ?_
    refine W.exit ?_
    refine hK2 _ _ ?_
    refine W.seqK fun K15 hK15 => ?_
    refine W.region ?_
    refine Rg.od rfl rfl rfl (OpT.assign rfl ?_)
    refine Rg.nil ?_
    refine hK15 _ _ ?_
    refine W.ret ?_
    refine ⟨_, Res.one rfl rfl, ?_⟩
    exact ⟨_, rfl, ⟨fun h => by omega, fun h => absurd (all_of_idx hi4_1 (by omega)) (by simp [h])⟩, x4⟩
set_option maxHeartbeats 1000000 in
set_option maxRecDepth 20000 in
theorem containsL_runs (la : Option Addr) (lc : Nat) (ls : List L) (w0 : World) (R : Nat → Prop) (hL : SlL w0 R la ls) (hl : lenOk ls.length lc) :
    Runs Tryz.prog 159 #[.slice la ls.length lc, .func (.func 160) #[] #[]] w0 fun v w' => v = .bool (!ls.all L.may) ∧ Ext w0 w' := by
  refine Runs.of_W (vs := [_, _]) Tryz.func159 rfl rfl ?_
  refine W.seqK fun K1 hK1 => ?_
  refine W.region ?_
  refine Rg.od rfl rfl rfl (OpT.assign rfl ?_)
  refine Rg.nil ?_
  refine hK1 _ _ ?_
  refine W.seqK fun K2 hK2 => ?_
  refine W.region ?_
  refine Rg.od rfl rfl rfl (OpT.move rfl ?_)
  refine Rg.od rfl rfl rfl (OpT.move rfl ?_)
  refine Rg.od rfl rfl rfl (OpT.call Tryz.call175 (.cons rfl (.cons rfl .nil)) (Runs.mono (indexL_runs _ _ _ _ _ hL hl) ?_))
  rintro _ w3 ⟨i3, rfl, hi3, x3⟩
  refine Rg.od rfl rfl rfl (OpT.geq rfl rfl ?_)
  refine Rg.od rfl rfl rfl (OpT.assign rfl ?_)
  refine Rg.nil ?_
  refine hK2 _ _ ?_
  refine W.ret ?_
  refine ⟨_, Res.one rfl rfl, ?_⟩
  exact ⟨congrArg Value.bool (by rw [Bool.eq_iff_iff, decide_eq_true_eq, hi3]; simp), x3⟩
set_option maxHeartbeats 1000000 in
set_option maxRecDepth 20000 in
theorem node_runs (t : T) (cs : List Value) (w0 : World) (R : Nat → Prop) (hv : VT w0 R cs t) : Runs Tryz.prog 138 #[.agg cs.toArray] w0 fun v w' => v = .bool (nodeB t) ∧ Ext w0 w' := by
  obtain ⟨k, n, s, ls, ts, la, lc, ta, tc, rfl, rfl, hk, hn, hs, hl, ht, hL, hT⟩ := hv.inv
  refine Runs.of_W (vs := [_]) Tryz.func138 rfl rfl ?_
  refine W.seqK fun K1 hK1 => ?_
  refine W.region ?_
  refine Rg.od rfl rfl rfl (OpT.box rfl fun w2 g2 e2 x2 z2 b2 => ?_)
  replace b2 : Box w2 g2 [.int .u8 k, .int .i64 n, .string s, .slice la ls.length lc, .slice ta ts.length tc] := b2
  refine Rg.od rfl rfl rfl (OpT.assign rfl ?_)
  refine Rg.nil ?_
  refine hK1 _ _ ?_
  refine W.seqK fun K3 hK3 => ?_
  refine W.region ?_
  refine Rg.od rfl rfl rfl (OpT.fieldAddrB (off := 0) Tryz.underlying33 rfl Tryz.sizeOf5 rfl rfl ?_)
  refine Rg.od rfl rfl rfl (OpT.loadB Tryz.isAgg5 rfl b2 rfl ?_)
  refine Rg.od rfl rfl rfl (OpT.call Tryz.call158 (.cons rfl .nil) (Runs.mono (kids_runs _ _) ?_))
  rintro _ w4 ⟨rfl, x4⟩
  refine Rg.od rfl rfl rfl (OpT.move rfl ?_)
  refine Rg.od rfl rfl rfl (OpT.extract rfl rfl ?_)
  refine Rg.od rfl rfl rfl (OpT.extract rfl rfl ?_)
  refine Rg.od rfl rfl rfl (OpT.assign rfl ?_)
  refine Rg.od rfl rfl rfl (OpT.assign rfl ?_)
  refine Rg.nil ?_
  refine hK3 _ _ ?_
  refine W.seqK fun K5 hK5 => ?_
  refine W.seqK fun K6 hK6 => ?_
  refine W.region ?_
  refine Rg.od rfl rfl rfl (OpT.move rfl ?_)
  refine Rg.od rfl rfl rfl (OpT.notB rfl ?_)
  refine Rg.od rfl rfl rfl (OpT.move rfl ?_)
  rcases Bool.eq_false_or_eq_true (decide (0 ≤ kidsI k)) with hb7 | hb7
  · have hp7 := of_decide_eq_true hb7
    refine Rg.gy rfl rfl rfl rfl (nT hb7) (OpT.move rfl ?_)
    refine Rg.gy rfl rfl rfl rfl (nT hb7) (OpT.fieldAddrB (off := 4) Tryz.underlying33 rfl Tryz.sizeOf31 rfl rfl ?_)
    refine Rg.gy rfl rfl rfl rfl (nT hb7) (OpT.loadB Tryz.isAgg31 rfl (b2.ext x4) rfl ?_)
    refine Rg.gy rfl rfl rfl rfl (nT hb7) (OpT.lenS Tryz.underlying31 rfl ?_)
    refine Rg.gy rfl rfl rfl rfl (nT hb7) (OpT.neqI rfl rfl ?_)
    refine Rg.od rfl rfl rfl (OpT.pickF rfl (nT hb7) rfl ?_)
    refine Rg.od rfl rfl rfl (OpT.move rfl ?_)
    rcases Bool.eq_false_or_eq_true (decide ((if kidsI k < 0 then 0 else kidsI k) = ((ts.length : Nat) : Int))) with hb8 | hb8
    · have hp8 := of_decide_eq_true hb8
      refine Rg.gy rfl rfl rfl rfl (nT hb8) (OpT.fieldAddrB (off := 3) Tryz.underlying33 rfl Tryz.sizeOf30 rfl rfl ?_)
      refine Rg.gy rfl rfl rfl rfl (nT hb8) (OpT.loadB Tryz.isAgg30 rfl (b2.ext x4) rfl ?_)
      refine Rg.gy rfl rfl rfl rfl (nT hb8) (OpT.call Tryz.call159 (.cons rfl (.cons rfl .nil)) (Runs.mono (containsL_runs _ _ _ _ _ (hL.ext (x2.trans x4)) (by assumption)) ?_))
      rintro _ w9 ⟨rfl, x9⟩
      refine Rg.od rfl rfl rfl (OpT.pickF rfl (nT hb8) rfl ?_)
      refine Rg.nil ?_
      refine hK6 _ _ ?_
      rcases Bool.eq_false_or_eq_true (ls.all L.may) with hb10 | hb10
      · have hp10 := hb10
        refine W.condFb rfl (nT hb10) ?_
        refine W.skip ?_
        refine hK5 _ _ ?_
        refine W.seqK fun K11 hK11 => ?_
        refine W.draw (VS.ex _ :: VS.ex _ :: VS.ex _ :: VS.ex _ :: VS.ex _ :: VS.ex _ :: VS.ex _ :: VS.ex _ :: VS.ex _ :: VS.ex _ :: VS.ex _ :: VS.ex _ :: VS.ex _ :: []) mixed rfl rfl ⟨trivial, trivial, trivial, trivial, trivial, trivial, trivial, trivial, trivial, trivial, trivial, trivial, trivial, trivial⟩
          ⟨fun w' hx _ => OpT.fieldAddrB (off := 2) Tryz.underlying33 rfl Tryz.sizeOf9 rfl rfl VS.ok,
          fun w' hx _ => OpT.loadB Tryz.isAgg9 rfl (b2.ext ((x4.trans x9).trans hx)) rfl VS.ok,
          fun w' hx _ => OpT.eqlS rfl rfl VS.ok,
          fun w' hx _ => OpT.fieldAddrB (off := 1) Tryz.underlying33 rfl Tryz.sizeOf3 rfl rfl VS.ok,
          fun w' hx _ => OpT.loadB Tryz.isAgg3 rfl (b2.ext ((x4.trans x9).trans hx)) rfl VS.ok,
          fun w' hx _ => OpT.eqlI rfl rfl VS.ok,
          fun w' hx _ => OpT.fieldAddrB (off := 3) Tryz.underlying33 rfl Tryz.sizeOf30 rfl rfl VS.ok,
          fun w' hx _ => OpT.loadB Tryz.isAgg30 rfl (b2.ext ((x4.trans x9).trans hx)) rfl VS.ok,
          fun w' hx _ => OpT.lenS Tryz.underlying30 rfl VS.ok,
          fun w' hx _ => OpT.eqlI rfl rfl VS.ok,
          fun w' hx _ => OpT.assign rfl VS.ok,
          fun w' hx _ => OpT.assign rfl VS.ok,
          fun w' hx _ => OpT.assign rfl VS.ok,
          trivial⟩ ?_
        intro w12 x12
        refine hK11 _ _ ?_
        refine W.seqK fun K13 hK13 => ?_
        refine W.seqK fun K14 hK14 => ?_
        refine W.region ?_
        refine Rg.od rfl rfl rfl (OpT.fieldAddrB (off := 0) Tryz.underlying33 rfl Tryz.sizeOf5 rfl rfl ?_)
        refine Rg.od rfl rfl rfl (OpT.loadB Tryz.isAgg5 rfl (b2.ext ((x4.trans x9).trans x12)) rfl ?_)
        refine Rg.nil ?_
        refine hK14 _ _ ?_
        refine W.block ?_
        refine W.seqK fun K15 hK15 => ?_
        refine W.region ?_
        refine Rg.od rfl rfl rfl (OpT.eqlI rfl rfl ?_)
        refine Rg.od rfl rfl rfl (OpT.assign rfl ?_)
        refine Rg.nil ?_
        refine hK15 _ _ ?_
        rcases Bool.eq_false_or_eq_true (decide (k = 1)) with hb16 | hb16
        · have hp16 := of_decide_eq_true hb16
          refine W.condTb rfl hb16 ?_
          refine W.region ?_
          refine Rg.od rfl rfl rfl (OpT.fieldAddrB (off := 3) Tryz.underlying33 rfl Tryz.sizeOf30 rfl rfl ?_)
          refine Rg.od rfl rfl rfl (OpT.loadB Tryz.isAgg30 rfl (b2.ext ((x4.trans x9).trans x12)) rfl ?_)
          refine Rg.od rfl rfl rfl (OpT.lenS Tryz.underlying30 rfl ?_)
          refine Rg.od rfl rfl rfl (OpT.eqlI rfl rfl ?_)
          refine Rg.od rfl rfl rfl (OpT.assign rfl ?_)
          refine Rg.nil ?_
          refine hK13 _ _ ?_
          refine W.seqK fun K17 hK17 => ?_
          refine W.region ?_
          refine Rg.od rfl rfl rfl (OpT.move rfl ?_)
          refine Rg.od rfl rfl rfl (OpT.move rfl ?_)
          rcases Bool.eq_false_or_eq_true (s.toList == (⟨#[]⟩ : ByteArray).toList) with hb18 | hb18
          · have hp18 := hb18
            refine Rg.gy rfl rfl rfl rfl hb18 (OpT.move rfl ?_)
            refine Rg.od rfl rfl rfl (OpT.pickT rfl hb18 rfl ?_)
            refine Rg.od rfl rfl rfl (OpT.move rfl ?_)
            rcases Bool.eq_false_or_eq_true (decide (n = 0)) with hb19 | hb19
            · have hp19 := of_decide_eq_true hb19
              refine Rg.gy rfl rfl rfl rfl hb19 (OpT.move rfl ?_)
              refine Rg.od rfl rfl rfl (OpT.pickT rfl hb19 rfl ?_)
              refine Rg.od rfl rfl rfl (OpT.assign rfl ?_)
              refine Rg.nil ?_
              refine hK17 _ _ ?_
              refine W.ret ?_
              refine ⟨_, Res.one rfl rfl, ?_⟩
              refine ⟨congrArg Value.bool ?_, (((x2.trans x4).trans x9).trans x12)⟩
              refine nodeEq ?_
              have hz := empty_iff s
              clear hv hL hT hl ht hs hn 
              grind
            · have hp19 := of_decide_eq_false hb19
              refine Rg.gn rfl rfl rfl rfl hb19 ?_
              refine Rg.od rfl rfl rfl (OpT.pickF rfl hb19 rfl ?_)
              refine Rg.od rfl rfl rfl (OpT.assign rfl ?_)
              refine Rg.nil ?_
              refine hK17 _ _ ?_
              refine W.ret ?_
              refine ⟨_, Res.one rfl rfl, ?_⟩
              refine ⟨congrArg Value.bool ?_, (((x2.trans x4).trans x9).trans x12)⟩
              refine nodeEq ?_
              have hz := empty_iff s
              clear hv hL hT hl ht hs hn 
              grind
          · have hp18 := hb18
            refine Rg.gn rfl rfl rfl rfl hb18 ?_
            refine Rg.od rfl rfl rfl (OpT.pickF rfl hb18 rfl ?_)
            refine Rg.od rfl rfl rfl (OpT.move rfl ?_)
            refine Rg.gn rfl rfl rfl rfl rfl ?_
            refine Rg.od rfl rfl rfl (OpT.pickF rfl rfl rfl ?_)
            refine Rg.od rfl rfl rfl (OpT.assign rfl ?_)
            refine Rg.nil ?_
            refine hK17 _ _ ?_
            refine W.ret ?_
            refine ⟨_, Res.one rfl rfl, ?_⟩
            refine ⟨congrArg Value.bool ?_, (((x2.trans x4).trans x9).trans x12)⟩
            refine nodeEq ?_
            have hz := empty_iff s
            clear hv hL hT hl ht hs hn 
            grind
        · have hp16 := of_decide_eq_false hb16
          refine W.condFb rfl hb16 ?_
          refine W.seqK fun K20 hK20 => ?_
          refine W.region ?_
          refine Rg.od rfl rfl rfl (OpT.eqlI rfl rfl ?_)
          refine Rg.od rfl rfl rfl (OpT.assign rfl ?_)
          refine Rg.nil ?_
          refine hK20 _ _ ?_
          rcases Bool.eq_false_or_eq_true (decide (k = 2)) with hb21 | hb21
          · have hp21 := of_decide_eq_true hb21
            refine W.condTb rfl hb21 ?_
            refine W.region ?_
            refine Rg.od rfl rfl rfl (OpT.fieldAddrB (off := 1) Tryz.underlying33 rfl Tryz.sizeOf3 rfl rfl ?_)
            refine Rg.od rfl rfl rfl (OpT.loadB Tryz.isAgg3 rfl (b2.ext ((x4.trans x9).trans x12)) rfl ?_)
            refine Rg.od rfl rfl rfl (OpT.geq rfl rfl ?_)
            refine Rg.od rfl rfl rfl (OpT.move rfl ?_)
            rcases Bool.eq_false_or_eq_true (decide (0 ≤ n)) with hb22 | hb22
            · have hp22 := of_decide_eq_true hb22
              refine Rg.gy rfl rfl rfl rfl hb22 (OpT.fieldAddrB (off := 1) Tryz.underlying33 rfl Tryz.sizeOf3 rfl rfl ?_)
              refine Rg.gy rfl rfl rfl rfl hb22 (OpT.loadB Tryz.isAgg3 rfl (b2.ext ((x4.trans x9).trans x12)) rfl ?_)
              refine Rg.gy rfl rfl rfl rfl hb22 (OpT.leq rfl rfl ?_)
              refine Rg.od rfl rfl rfl (OpT.pickT rfl hb22 rfl ?_)
              refine Rg.od rfl rfl rfl (OpT.assign rfl ?_)
              refine Rg.nil ?_
              refine hK13 _ _ ?_
              refine W.seqK fun K23 hK23 => ?_
              refine W.region ?_
              refine Rg.od rfl rfl rfl (OpT.move rfl ?_)
              refine Rg.od rfl rfl rfl (OpT.move rfl ?_)
              rcases Bool.eq_false_or_eq_true (s.toList == (⟨#[]⟩ : ByteArray).toList) with hb24 | hb24
              · have hp24 := hb24
                refine Rg.gy rfl rfl rfl rfl hb24 (OpT.move rfl ?_)
                refine Rg.od rfl rfl rfl (OpT.pickT rfl hb24 rfl ?_)
                refine Rg.od rfl rfl rfl (OpT.move rfl ?_)
                rcases Bool.eq_false_or_eq_true (decide (n ≤ 1048576)) with hb25 | hb25
                · have hp25 := of_decide_eq_true hb25
                  refine Rg.gy rfl rfl rfl rfl hb25 (OpT.move rfl ?_)
                  refine Rg.od rfl rfl rfl (OpT.pickT rfl hb25 rfl ?_)
                  refine Rg.od rfl rfl rfl (OpT.assign rfl ?_)
                  refine Rg.nil ?_
                  refine hK23 _ _ ?_
                  refine W.ret ?_
                  refine ⟨_, Res.one rfl rfl, ?_⟩
                  refine ⟨congrArg Value.bool ?_, (((x2.trans x4).trans x9).trans x12)⟩
                  refine nodeEq ?_
                  have hz := empty_iff s
                  clear hv hL hT hl ht hs hn 
                  grind
                · have hp25 := of_decide_eq_false hb25
                  refine Rg.gn rfl rfl rfl rfl hb25 ?_
                  refine Rg.od rfl rfl rfl (OpT.pickF rfl hb25 rfl ?_)
                  refine Rg.od rfl rfl rfl (OpT.assign rfl ?_)
                  refine Rg.nil ?_
                  refine hK23 _ _ ?_
                  refine W.ret ?_
                  refine ⟨_, Res.one rfl rfl, ?_⟩
                  refine ⟨congrArg Value.bool ?_, (((x2.trans x4).trans x9).trans x12)⟩
                  refine nodeEq ?_
                  have hz := empty_iff s
                  clear hv hL hT hl ht hs hn 
                  grind
              · have hp24 := hb24
                refine Rg.gn rfl rfl rfl rfl hb24 ?_
                refine Rg.od rfl rfl rfl (OpT.pickF rfl hb24 rfl ?_)
                refine Rg.od rfl rfl rfl (OpT.move rfl ?_)
                refine Rg.gn rfl rfl rfl rfl rfl ?_
                refine Rg.od rfl rfl rfl (OpT.pickF rfl rfl rfl ?_)
                refine Rg.od rfl rfl rfl (OpT.assign rfl ?_)
                refine Rg.nil ?_
                refine hK23 _ _ ?_
                refine W.ret ?_
                refine ⟨_, Res.one rfl rfl, ?_⟩
                refine ⟨congrArg Value.bool ?_, (((x2.trans x4).trans x9).trans x12)⟩
                refine nodeEq ?_
                have hz := empty_iff s
                clear hv hL hT hl ht hs hn 
                grind
            · have hp22 := of_decide_eq_false hb22
              refine Rg.gn rfl rfl rfl rfl hb22 ?_
              refine Rg.gn rfl rfl rfl rfl hb22 ?_
              refine Rg.gn rfl rfl rfl rfl hb22 ?_
              refine Rg.od rfl rfl rfl (OpT.pickF rfl hb22 rfl ?_)
              refine Rg.od rfl rfl rfl (OpT.assign rfl ?_)
              refine Rg.nil ?_
              refine hK13 _ _ ?_
              refine W.seqK fun K26 hK26 => ?_
              refine W.region ?_
              refine Rg.od rfl rfl rfl (OpT.move rfl ?_)
              refine Rg.od rfl rfl rfl (OpT.move rfl ?_)
              rcases Bool.eq_false_or_eq_true (s.toList == (⟨#[]⟩ : ByteArray).toList) with hb27 | hb27
              · have hp27 := hb27
                refine Rg.gy rfl rfl rfl rfl hb27 (OpT.move rfl ?_)
                refine Rg.od rfl rfl rfl (OpT.pickT rfl hb27 rfl ?_)
                refine Rg.od rfl rfl rfl (OpT.move rfl ?_)
                refine Rg.gn rfl rfl rfl rfl rfl ?_
                refine Rg.od rfl rfl rfl (OpT.pickF rfl rfl rfl ?_)
                refine Rg.od rfl rfl rfl (OpT.assign rfl ?_)
                refine Rg.nil ?_
                refine hK26 _ _ ?_
                refine W.ret ?_
                refine ⟨_, Res.one rfl rfl, ?_⟩
                refine ⟨congrArg Value.bool ?_, (((x2.trans x4).trans x9).trans x12)⟩
                refine nodeEq ?_
                have hz := empty_iff s
                clear hv hL hT hl ht hs hn 
                grind
              · have hp27 := hb27
                refine Rg.gn rfl rfl rfl rfl hb27 ?_
                refine Rg.od rfl rfl rfl (OpT.pickF rfl hb27 rfl ?_)
                refine Rg.od rfl rfl rfl (OpT.move rfl ?_)
                refine Rg.gn rfl rfl rfl rfl rfl ?_
                refine Rg.od rfl rfl rfl (OpT.pickF rfl rfl rfl ?_)
                refine Rg.od rfl rfl rfl (OpT.assign rfl ?_)
                refine Rg.nil ?_
                refine hK26 _ _ ?_
                refine W.ret ?_
                refine ⟨_, Res.one rfl rfl, ?_⟩
                refine ⟨congrArg Value.bool ?_, (((x2.trans x4).trans x9).trans x12)⟩
                refine nodeEq ?_
                have hz := empty_iff s
                clear hv hL hT hl ht hs hn 
                grind
          · have hp21 := of_decide_eq_false hb21
            refine W.condFb rfl hb21 ?_
            refine W.seqK fun K28 hK28 => ?_
            refine W.region ?_
            refine Rg.od rfl rfl rfl (OpT.eqlI rfl rfl ?_)
            refine Rg.od rfl rfl rfl (OpT.assign rfl ?_)
            refine Rg.nil ?_
            refine hK28 _ _ ?_
            rcases Bool.eq_false_or_eq_true (decide (k = 3)) with hb29 | hb29
            · have hp29 := of_decide_eq_true hb29
              refine W.condTb rfl hb29 ?_
              refine W.draw (VS.ex _ :: VS.ex _ :: VS.ex _ :: VS.ex _ :: VS.ex _ :: VS.ex _ :: VS.ex _ :: VS.ex _ :: VS.ex _ :: []) mixed rfl rfl ⟨trivial, trivial, trivial, trivial, trivial, trivial, trivial, trivial, trivial, trivial⟩
                ⟨fun w' hx _ => OpT.fieldAddrB (off := 2) Tryz.underlying33 rfl Tryz.sizeOf9 rfl rfl VS.ok,
                fun w' hx _ => OpT.loadB Tryz.isAgg9 rfl (b2.ext (((x4.trans x9).trans x12).trans hx)) rfl VS.ok,
                fun w' hx _ => OpT.call Tryz.call90 (.cons rfl .nil) (Runs.mono (tname_runs _ (by first | assumption | omega) _) fun v w h => VS.okx h.1 h.2),
                fun w' hx _ => OpT.fieldAddrB (off := 3) Tryz.underlying33 rfl Tryz.sizeOf30 rfl rfl VS.ok,
                fun w' hx _ => OpT.loadB Tryz.isAgg30 rfl (b2.ext (((x4.trans x9).trans x12).trans hx)) rfl VS.ok,
                fun w' hx _ => OpT.lenS Tryz.underlying30 rfl VS.ok,
                fun w' hx _ => OpT.leq rfl rfl VS.ok,
                fun w' hx _ => OpT.assign rfl VS.ok,
                fun w' hx _ => OpT.assign rfl VS.ok,
                trivial⟩ ?_
              intro w30 x30
              refine hK13 _ _ ?_
              refine W.seqK fun K31 hK31 => ?_
              refine W.region ?_
              refine Rg.od rfl rfl rfl (OpT.move rfl ?_)
              refine Rg.od rfl rfl rfl (OpT.move rfl ?_)
              rcases Bool.eq_false_or_eq_true (nameB s) with hb32 | hb32
              · have hp32 := hb32
                refine Rg.gy rfl rfl rfl rfl hb32 (OpT.move rfl ?_)
                refine Rg.od rfl rfl rfl (OpT.pickT rfl hb32 rfl ?_)
                refine Rg.od rfl rfl rfl (OpT.move rfl ?_)
                rcases Bool.eq_false_or_eq_true (decide (n = 0)) with hb33 | hb33
                · have hp33 := of_decide_eq_true hb33
                  refine Rg.gy rfl rfl rfl rfl hb33 (OpT.move rfl ?_)
                  refine Rg.od rfl rfl rfl (OpT.pickT rfl hb33 rfl ?_)
                  refine Rg.od rfl rfl rfl (OpT.assign rfl ?_)
                  refine Rg.nil ?_
                  refine hK31 _ _ ?_
                  refine W.ret ?_
                  refine ⟨_, Res.one rfl rfl, ?_⟩
                  refine ⟨congrArg Value.bool ?_, ((((x2.trans x4).trans x9).trans x12).trans x30)⟩
                  refine nodeEq ?_
                  have hz := empty_iff s
                  clear hv hL hT hl ht hs hn 
                  grind
                · have hp33 := of_decide_eq_false hb33
                  refine Rg.gn rfl rfl rfl rfl hb33 ?_
                  refine Rg.od rfl rfl rfl (OpT.pickF rfl hb33 rfl ?_)
                  refine Rg.od rfl rfl rfl (OpT.assign rfl ?_)
                  refine Rg.nil ?_
                  refine hK31 _ _ ?_
                  refine W.ret ?_
                  refine ⟨_, Res.one rfl rfl, ?_⟩
                  refine ⟨congrArg Value.bool ?_, ((((x2.trans x4).trans x9).trans x12).trans x30)⟩
                  refine nodeEq ?_
                  have hz := empty_iff s
                  clear hv hL hT hl ht hs hn 
                  grind
              · have hp32 := hb32
                refine Rg.gn rfl rfl rfl rfl hb32 ?_
                refine Rg.od rfl rfl rfl (OpT.pickF rfl hb32 rfl ?_)
                refine Rg.od rfl rfl rfl (OpT.move rfl ?_)
                refine Rg.gn rfl rfl rfl rfl rfl ?_
                refine Rg.od rfl rfl rfl (OpT.pickF rfl rfl rfl ?_)
                refine Rg.od rfl rfl rfl (OpT.assign rfl ?_)
                refine Rg.nil ?_
                refine hK31 _ _ ?_
                refine W.ret ?_
                refine ⟨_, Res.one rfl rfl, ?_⟩
                refine ⟨congrArg Value.bool ?_, ((((x2.trans x4).trans x9).trans x12).trans x30)⟩
                refine nodeEq ?_
                have hz := empty_iff s
                clear hv hL hT hl ht hs hn 
                grind
            · have hp29 := of_decide_eq_false hb29
              refine W.condFb rfl hb29 ?_
              refine W.seqK fun K34 hK34 => ?_
              refine W.region ?_
              refine Rg.od rfl rfl rfl (OpT.eqlI rfl rfl ?_)
              refine Rg.od rfl rfl rfl (OpT.assign rfl ?_)
              refine Rg.nil ?_
              refine hK34 _ _ ?_
              rcases Bool.eq_false_or_eq_true (decide (k = 8)) with hb35 | hb35
              · have hp35 := of_decide_eq_true hb35
                refine W.condTb rfl hb35 ?_
                rcases Bool.eq_false_or_eq_true (decide (0 ≤ n)) with hb36 | hb36
                · have hp36 := of_decide_eq_true hb36
                  refine W.draw (VS.ex _ :: VS.ex _ :: VS.ex _ :: VS.ex _ :: VS.ex _ :: VS.ex _ :: VS.ex _ :: VS.ex _ :: VS.ex _ :: VS.ex _ :: VS.ex _ :: VS.ex _ :: VS.ex _ :: []) mixed rfl rfl ⟨trivial, trivial, trivial, trivial, trivial, trivial, trivial, trivial, trivial, trivial, trivial, trivial, trivial, trivial⟩
                    ⟨fun w' hx _ => OpT.fieldAddrB (off := 2) Tryz.underlying33 rfl Tryz.sizeOf9 rfl rfl VS.ok,
                    fun w' hx _ => OpT.loadB Tryz.isAgg9 rfl (b2.ext (((x4.trans x9).trans x12).trans hx)) rfl VS.ok,
                    fun w' hx _ => OpT.call Tryz.call90 (.cons rfl .nil) (Runs.mono (tname_runs _ (by first | assumption | omega) _) fun v w h => VS.okx h.1 h.2),
                    fun w' hx _ => OpT.fieldAddrB (off := 1) Tryz.underlying33 rfl Tryz.sizeOf3 rfl rfl VS.ok,
                    fun w' hx _ => OpT.loadB Tryz.isAgg3 rfl (b2.ext (((x4.trans x9).trans x12).trans hx)) rfl VS.ok,
                    fun w' hx _ => OpT.geq rfl rfl VS.ok,
                    fun w' hx _ => OpT.move rfl VS.ok,
                    fun w' hx _ => .inl ⟨_, rfl, fun _ => OpT.fieldAddrB (off := 1) Tryz.underlying33 rfl Tryz.sizeOf3 rfl rfl VS.ok, fun h => absurd hb36 h⟩,
                    fun w' hx _ => .inl ⟨_, rfl, fun _ => OpT.loadB Tryz.isAgg3 rfl (b2.ext (((x4.trans x9).trans x12).trans hx)) rfl VS.ok, fun h => absurd hb36 h⟩,
                    fun w' hx _ => .inl ⟨_, rfl, fun _ => OpT.lss rfl rfl VS.ok, fun h => absurd hb36 h⟩,
                    fun w' hx _ => OpT.pickT rfl hb36 rfl VS.ok,
                    fun w' hx _ => OpT.assign rfl VS.ok,
                    fun w' hx _ => OpT.assign rfl VS.ok,
                    trivial⟩ ?_
                  intro w37 x37
                  refine hK13 _ _ ?_
                  refine W.seqK fun K38 hK38 => ?_
                  refine W.region ?_
                  refine Rg.od rfl rfl rfl (OpT.move rfl ?_)
                  refine Rg.od rfl rfl rfl (OpT.move rfl ?_)
                  rcases Bool.eq_false_or_eq_true (nameB s) with hb39 | hb39
                  · have hp39 := hb39
                    refine Rg.gy rfl rfl rfl rfl hb39 (OpT.move rfl ?_)
                    refine Rg.od rfl rfl rfl (OpT.pickT rfl hb39 rfl ?_)
                    refine Rg.od rfl rfl rfl (OpT.move rfl ?_)
                    rcases Bool.eq_false_or_eq_true (decide (n < 12)) with hb40 | hb40
                    · have hp40 := of_decide_eq_true hb40
                      refine Rg.gy rfl rfl rfl rfl hb40 (OpT.move rfl ?_)
                      refine Rg.od rfl rfl rfl (OpT.pickT rfl hb40 rfl ?_)
                      refine Rg.od rfl rfl rfl (OpT.assign rfl ?_)
                      refine Rg.nil ?_
                      refine hK38 _ _ ?_
                      refine W.ret ?_
                      refine ⟨_, Res.one rfl rfl, ?_⟩
                      refine ⟨congrArg Value.bool ?_, ((((x2.trans x4).trans x9).trans x12).trans x37)⟩
                      refine nodeEq ?_
                      have hz := empty_iff s
                      clear hv hL hT hl ht hs hn 
                      grind
                    · have hp40 := of_decide_eq_false hb40
                      refine Rg.gn rfl rfl rfl rfl hb40 ?_
                      refine Rg.od rfl rfl rfl (OpT.pickF rfl hb40 rfl ?_)
                      refine Rg.od rfl rfl rfl (OpT.assign rfl ?_)
                      refine Rg.nil ?_
                      refine hK38 _ _ ?_
                      refine W.ret ?_
                      refine ⟨_, Res.one rfl rfl, ?_⟩
                      refine ⟨congrArg Value.bool ?_, ((((x2.trans x4).trans x9).trans x12).trans x37)⟩
                      refine nodeEq ?_
                      have hz := empty_iff s
                      clear hv hL hT hl ht hs hn 
                      grind
                  · have hp39 := hb39
                    refine Rg.gn rfl rfl rfl rfl hb39 ?_
                    refine Rg.od rfl rfl rfl (OpT.pickF rfl hb39 rfl ?_)
                    refine Rg.od rfl rfl rfl (OpT.move rfl ?_)
                    refine Rg.gn rfl rfl rfl rfl rfl ?_
                    refine Rg.od rfl rfl rfl (OpT.pickF rfl rfl rfl ?_)
                    refine Rg.od rfl rfl rfl (OpT.assign rfl ?_)
                    refine Rg.nil ?_
                    refine hK38 _ _ ?_
                    refine W.ret ?_
                    refine ⟨_, Res.one rfl rfl, ?_⟩
                    refine ⟨congrArg Value.bool ?_, ((((x2.trans x4).trans x9).trans x12).trans x37)⟩
                    refine nodeEq ?_
                    have hz := empty_iff s
                    clear hv hL hT hl ht hs hn 
                    grind
                · have hp36 := of_decide_eq_false hb36
                  refine W.draw (VS.ex _ :: VS.ex _ :: VS.ex _ :: VS.ex _ :: VS.ex _ :: VS.ex _ :: VS.ex _ :: VS.ex undef :: VS.ex undef :: VS.ex undef :: VS.ex _ :: VS.ex _ :: VS.ex _ :: []) mixed rfl rfl ⟨trivial, trivial, trivial, trivial, trivial, trivial, trivial, trivial, trivial, trivial, trivial, trivial, trivial, trivial⟩
                    ⟨fun w' hx _ => OpT.fieldAddrB (off := 2) Tryz.underlying33 rfl Tryz.sizeOf9 rfl rfl VS.ok,
                    fun w' hx _ => OpT.loadB Tryz.isAgg9 rfl (b2.ext (((x4.trans x9).trans x12).trans hx)) rfl VS.ok,
                    fun w' hx _ => OpT.call Tryz.call90 (.cons rfl .nil) (Runs.mono (tname_runs _ (by first | assumption | omega) _) fun v w h => VS.okx h.1 h.2),
                    fun w' hx _ => OpT.fieldAddrB (off := 1) Tryz.underlying33 rfl Tryz.sizeOf3 rfl rfl VS.ok,
                    fun w' hx _ => OpT.loadB Tryz.isAgg3 rfl (b2.ext (((x4.trans x9).trans x12).trans hx)) rfl VS.ok,
                    fun w' hx _ => OpT.geq rfl rfl VS.ok,
                    fun w' hx _ => OpT.move rfl VS.ok,
                    fun w' hx _ => .inl ⟨_, rfl, fun h => absurd ((hb36).symm.trans h) (by decide), fun _ => VS.okn⟩,
                    fun w' hx _ => .inl ⟨_, rfl, fun h => absurd ((hb36).symm.trans h) (by decide), fun _ => VS.okn⟩,
                    fun w' hx _ => .inl ⟨_, rfl, fun h => absurd ((hb36).symm.trans h) (by decide), fun _ => VS.okn⟩,
                    fun w' hx _ => OpT.pickF rfl hb36 rfl VS.ok,
                    fun w' hx _ => OpT.assign rfl VS.ok,
                    fun w' hx _ => OpT.assign rfl VS.ok,
                    trivial⟩ ?_
                  intro w41 x41
                  refine hK13 _ _ ?_
                  refine W.seqK fun K42 hK42 => ?_
                  refine W.region ?_
                  refine Rg.od rfl rfl rfl (OpT.move rfl ?_)
                  refine Rg.od rfl rfl rfl (OpT.move rfl ?_)
                  rcases Bool.eq_false_or_eq_true (nameB s) with hb43 | hb43
                  · have hp43 := hb43
                    refine Rg.gy rfl rfl rfl rfl hb43 (OpT.move rfl ?_)
                    refine Rg.od rfl rfl rfl (OpT.pickT rfl hb43 rfl ?_)
                    refine Rg.od rfl rfl rfl (OpT.move rfl ?_)
                    refine Rg.gn rfl rfl rfl rfl rfl ?_
                    refine Rg.od rfl rfl rfl (OpT.pickF rfl rfl rfl ?_)
                    refine Rg.od rfl rfl rfl (OpT.assign rfl ?_)
                    refine Rg.nil ?_
                    refine hK42 _ _ ?_
                    refine W.ret ?_
                    refine ⟨_, Res.one rfl rfl, ?_⟩
                    refine ⟨congrArg Value.bool ?_, ((((x2.trans x4).trans x9).trans x12).trans x41)⟩
                    refine nodeEq ?_
                    have hz := empty_iff s
                    clear hv hL hT hl ht hs hn 
                    grind
                  · have hp43 := hb43
                    refine Rg.gn rfl rfl rfl rfl hb43 ?_
                    refine Rg.od rfl rfl rfl (OpT.pickF rfl hb43 rfl ?_)
                    refine Rg.od rfl rfl rfl (OpT.move rfl ?_)
                    refine Rg.gn rfl rfl rfl rfl rfl ?_
                    refine Rg.od rfl rfl rfl (OpT.pickF rfl rfl rfl ?_)
                    refine Rg.od rfl rfl rfl (OpT.assign rfl ?_)
                    refine Rg.nil ?_
                    refine hK42 _ _ ?_
                    refine W.ret ?_
                    refine ⟨_, Res.one rfl rfl, ?_⟩
                    refine ⟨congrArg Value.bool ?_, ((((x2.trans x4).trans x9).trans x12).trans x41)⟩
                    refine nodeEq ?_
                    have hz := empty_iff s
                    clear hv hL hT hl ht hs hn 
                    grind
              · have hp35 := of_decide_eq_false hb35
                refine W.condFb rfl hb35 ?_
                refine W.skip ?_
                refine hK13 _ _ ?_
                refine W.seqK fun K44 hK44 => ?_
                refine W.region ?_
                refine Rg.od rfl rfl rfl (OpT.move rfl ?_)
                refine Rg.od rfl rfl rfl (OpT.move rfl ?_)
                rcases Bool.eq_false_or_eq_true (s.toList == (⟨#[]⟩ : ByteArray).toList) with hb45 | hb45
                · have hp45 := hb45
                  refine Rg.gy rfl rfl rfl rfl hb45 (OpT.move rfl ?_)
                  refine Rg.od rfl rfl rfl (OpT.pickT rfl hb45 rfl ?_)
                  refine Rg.od rfl rfl rfl (OpT.move rfl ?_)
                  rcases Bool.eq_false_or_eq_true (decide (n = 0)) with hb46 | hb46
                  · have hp46 := of_decide_eq_true hb46
                    refine Rg.gy rfl rfl rfl rfl hb46 (OpT.move rfl ?_)
                    refine Rg.od rfl rfl rfl (OpT.pickT rfl hb46 rfl ?_)
                    refine Rg.od rfl rfl rfl (OpT.assign rfl ?_)
                    refine Rg.nil ?_
                    refine hK44 _ _ ?_
                    refine W.ret ?_
                    refine ⟨_, Res.one rfl rfl, ?_⟩
                    refine ⟨congrArg Value.bool ?_, (((x2.trans x4).trans x9).trans x12)⟩
                    refine nodeEq ?_
                    have hz := empty_iff s
                    clear hv hL hT hl ht hs hn 
                    grind
                  · have hp46 := of_decide_eq_false hb46
                    refine Rg.gn rfl rfl rfl rfl hb46 ?_
                    refine Rg.od rfl rfl rfl (OpT.pickF rfl hb46 rfl ?_)
                    refine Rg.od rfl rfl rfl (OpT.assign rfl ?_)
                    refine Rg.nil ?_
                    refine hK44 _ _ ?_
                    refine W.ret ?_
                    refine ⟨_, Res.one rfl rfl, ?_⟩
                    refine ⟨congrArg Value.bool ?_, (((x2.trans x4).trans x9).trans x12)⟩
                    refine nodeEq ?_
                    have hz := empty_iff s
                    clear hv hL hT hl ht hs hn 
                    grind
                · have hp45 := hb45
                  refine Rg.gn rfl rfl rfl rfl hb45 ?_
                  refine Rg.od rfl rfl rfl (OpT.pickF rfl hb45 rfl ?_)
                  refine Rg.od rfl rfl rfl (OpT.move rfl ?_)
                  refine Rg.gn rfl rfl rfl rfl rfl ?_
                  refine Rg.od rfl rfl rfl (OpT.pickF rfl rfl rfl ?_)
                  refine Rg.od rfl rfl rfl (OpT.assign rfl ?_)
                  refine Rg.nil ?_
                  refine hK44 _ _ ?_
                  refine W.ret ?_
                  refine ⟨_, Res.one rfl rfl, ?_⟩
                  refine ⟨congrArg Value.bool ?_, (((x2.trans x4).trans x9).trans x12)⟩
                  refine nodeEq ?_
                  have hz := empty_iff s
                  clear hv hL hT hl ht hs hn 
                  grind
      · have hp10 := hb10
        refine W.condTb rfl (nF hb10) ?_
        refine W.seqK fun K47 hK47 => ?_
        refine W.region ?_
        refine Rg.od rfl rfl rfl (OpT.assign rfl ?_)
        refine Rg.nil ?_
        refine hK47 _ _ ?_
        refine W.ret ?_
        refine ⟨_, Res.one rfl rfl, ?_⟩
        refine ⟨congrArg Value.bool ?_, ((x2.trans x4).trans x9)⟩
        refine nodeEq ?_
        have hz := empty_iff s
        clear hv hL hT hl ht hs hn 
        grind
    · have hp8 := of_decide_eq_false hb8
      refine Rg.gn rfl rfl rfl rfl (nF hb8) ?_
      refine Rg.gn rfl rfl rfl rfl (nF hb8) ?_
      refine Rg.gn rfl rfl rfl rfl (nF hb8) ?_
      refine Rg.od rfl rfl rfl (OpT.pickT rfl (nF hb8) rfl ?_)
      refine Rg.nil ?_
      refine hK6 _ _ ?_
      refine W.condTb rfl rfl ?_
      refine W.seqK fun K48 hK48 => ?_
      refine W.region ?_
      refine Rg.od rfl rfl rfl (OpT.assign rfl ?_)
      refine Rg.nil ?_
      refine hK48 _ _ ?_
      refine W.ret ?_
      refine ⟨_, Res.one rfl rfl, ?_⟩
      refine ⟨congrArg Value.bool ?_, (x2.trans x4)⟩
      refine nodeEq ?_
      have hz := empty_iff s
      clear hv hL hT hl ht hs hn 
      grind
  · have hp7 := of_decide_eq_false hb7
    refine Rg.gn rfl rfl rfl rfl (nF hb7) ?_
    refine Rg.gn rfl rfl rfl rfl (nF hb7) ?_
    refine Rg.gn rfl rfl rfl rfl (nF hb7) ?_
    refine Rg.gn rfl rfl rfl rfl (nF hb7) ?_
    refine Rg.gn rfl rfl rfl rfl (nF hb7) ?_
    refine Rg.od rfl rfl rfl (OpT.pickT rfl (nF hb7) rfl ?_)
    refine Rg.od rfl rfl rfl (OpT.move rfl ?_)
    refine Rg.gn rfl rfl rfl rfl rfl ?_
    refine Rg.gn rfl rfl rfl rfl rfl ?_
    refine Rg.gn rfl rfl rfl rfl rfl ?_
    refine Rg.od rfl rfl rfl (OpT.pickT rfl rfl rfl ?_)
    refine Rg.nil ?_
    refine hK6 _ _ ?_
    refine W.condTb rfl rfl ?_
    refine W.seqK fun K49 hK49 => ?_
    refine W.region ?_
    refine Rg.od rfl rfl rfl (OpT.assign rfl ?_)
    refine Rg.nil ?_
    refine hK49 _ _ ?_
    refine W.ret ?_
    refine ⟨_, Res.one rfl rfl, ?_⟩
    refine ⟨congrArg Value.bool ?_, (x2.trans x4)⟩
    refine nodeEq ?_
    have hz := empty_iff s
    clear hv hL hT hl ht hs hn 
    grind
set_option maxHeartbeats 1000000 in
set_option maxRecDepth 20000 in
theorem rnode_runs (t : T) (cs : List Value) (w0 : World) (R : Nat → Prop) (hv : VT w0 R cs t) : Runs Tryz.prog 105 #[.agg cs.toArray] w0 fun v w' => v = .bool (nodeB t) ∧ Ext w0 w' := by
  obtain ⟨k, n, s, ls, ts, la, lc, ta, tc, rfl, rfl, hk, hn, hs, hl, ht, hL, hT⟩ := hv.inv
  refine Runs.of_W (vs := [_]) Tryz.func105 rfl rfl ?_
  refine W.seqK fun K1 hK1 => ?_
  refine W.region ?_
  refine Rg.od rfl rfl rfl (OpT.box rfl fun w2 g2 e2 x2 z2 b2 => ?_)
  replace b2 : Box w2 g2 [.int .u8 k, .int .i64 n, .string s, .slice la ls.length lc, .slice ta ts.length tc] := b2
  refine Rg.od rfl rfl rfl (OpT.assign rfl ?_)
  refine Rg.nil ?_
  refine hK1 _ _ ?_
  refine W.seqK fun K3 hK3 => ?_
  refine W.seqK fun K4 hK4 => ?_
  rcases Bool.eq_false_or_eq_true (decide (kidsI k < 0)) with hb5 | hb5
  · have hp5 := of_decide_eq_true hb5
    refine W.draw (VS.ex _ :: VS.ex _ :: VS.ex _ :: VS.ex _ :: VS.ex _ :: VS.ex undef :: VS.ex undef :: VS.ex undef :: VS.ex undef :: VS.ex undef :: VS.ex undef :: VS.ex undef :: VS.ex _ :: []) mixed rfl rfl ⟨trivial, trivial, trivial, trivial, trivial, trivial, trivial, trivial, trivial, trivial, trivial, trivial, trivial, trivial⟩
      ⟨fun w' hx _ => OpT.fieldAddrB (off := 0) Tryz.underlying33 rfl Tryz.sizeOf5 rfl rfl VS.ok,
      fun w' hx _ => OpT.loadB Tryz.isAgg5 rfl (b2.ext hx) rfl VS.ok,
      fun w' hx _ => OpT.call Tryz.call135 (.cons rfl .nil) (Runs.mono (rkids_runs _ _) fun v w h => VS.okx h.1 h.2),
      fun w' hx _ => OpT.lss rfl rfl VS.ok,
      fun w' hx _ => OpT.move rfl VS.ok,
      fun w' hx _ => .inl ⟨_, rfl, fun h => absurd ((hb5).symm.trans h) (by decide), fun _ => VS.okn⟩,
      fun w' hx _ => .inl ⟨_, rfl, fun h => absurd ((hb5).symm.trans h) (by decide), fun _ => VS.okn⟩,
      fun w' hx _ => .inl ⟨_, rfl, fun h => absurd ((hb5).symm.trans h) (by decide), fun _ => VS.okn⟩,
      fun w' hx _ => .inl ⟨_, rfl, fun h => absurd ((hb5).symm.trans h) (by decide), fun _ => VS.okn⟩,
      fun w' hx _ => .inl ⟨_, rfl, fun h => absurd ((hb5).symm.trans h) (by decide), fun _ => VS.okn⟩,
      fun w' hx _ => .inl ⟨_, rfl, fun h => absurd ((hb5).symm.trans h) (by decide), fun _ => VS.okn⟩,
      fun w' hx _ => .inl ⟨_, rfl, fun h => absurd ((hb5).symm.trans h) (by decide), fun _ => VS.okn⟩,
      fun w' hx _ => OpT.pickT rfl hb5 rfl VS.ok,
      trivial⟩ ?_
    intro w6 x6
    refine hK4 _ _ ?_
    refine W.condTb rfl rfl ?_
    refine W.seqK fun K7 hK7 => ?_
    refine W.region ?_
    refine Rg.od rfl rfl rfl (OpT.assign rfl ?_)
    refine Rg.nil ?_
    refine hK7 _ _ ?_
    refine W.ret ?_
    refine ⟨_, Res.one rfl rfl, ?_⟩
    refine ⟨congrArg Value.bool ?_, (x2.trans x6)⟩
    refine nodeEq ?_
    have hz := empty_iff s
    clear hv hL hT hl ht hs hn 
    grind
  · have hp5 := of_decide_eq_false hb5
    refine W.draw (VS.ex _ :: VS.ex _ :: VS.ex _ :: VS.ex _ :: VS.ex _ :: VS.ex _ :: VS.ex _ :: VS.ex _ :: VS.ex _ :: VS.ex _ :: VS.ex _ :: VS.ex _ :: VS.ex _ :: []) mixed rfl rfl ⟨trivial, trivial, trivial, trivial, trivial, trivial, trivial, trivial, trivial, trivial, trivial, trivial, trivial, trivial⟩
      ⟨fun w' hx _ => OpT.fieldAddrB (off := 0) Tryz.underlying33 rfl Tryz.sizeOf5 rfl rfl VS.ok,
      fun w' hx _ => OpT.loadB Tryz.isAgg5 rfl (b2.ext hx) rfl VS.ok,
      fun w' hx _ => OpT.call Tryz.call135 (.cons rfl .nil) (Runs.mono (rkids_runs _ _) fun v w h => VS.okx h.1 h.2),
      fun w' hx _ => OpT.lss rfl rfl VS.ok,
      fun w' hx _ => OpT.move rfl VS.ok,
      fun w' hx _ => .inl ⟨_, rfl, fun _ => OpT.fieldAddrB (off := 4) Tryz.underlying33 rfl Tryz.sizeOf31 rfl rfl VS.ok, fun h => absurd hb5 h⟩,
      fun w' hx _ => .inl ⟨_, rfl, fun _ => OpT.loadB Tryz.isAgg31 rfl (b2.ext hx) rfl VS.ok, fun h => absurd hb5 h⟩,
      fun w' hx _ => .inl ⟨_, rfl, fun _ => OpT.lenS Tryz.underlying31 rfl VS.ok, fun h => absurd hb5 h⟩,
      fun w' hx _ => .inl ⟨_, rfl, fun _ => OpT.fieldAddrB (off := 0) Tryz.underlying33 rfl Tryz.sizeOf5 rfl rfl VS.ok, fun h => absurd hb5 h⟩,
      fun w' hx _ => .inl ⟨_, rfl, fun _ => OpT.loadB Tryz.isAgg5 rfl (b2.ext hx) rfl VS.ok, fun h => absurd hb5 h⟩,
      fun w' hx _ => .inl ⟨_, rfl, fun _ => OpT.call Tryz.call135 (.cons rfl .nil) (Runs.mono (rkids_runs _ _) fun v w h => VS.okx h.1 h.2), fun h => absurd hb5 h⟩,
      fun w' hx _ => .inl ⟨_, rfl, fun _ => OpT.neqI rfl rfl VS.ok, fun h => absurd hb5 h⟩,
      fun w' hx _ => OpT.pickF rfl hb5 rfl VS.ok,
      trivial⟩ ?_
    intro w8 x8
    refine hK4 _ _ ?_
    rcases Bool.eq_false_or_eq_true (decide (((ts.length : Nat) : Int) = kidsI k)) with hb9 | hb9
    · have hp9 := of_decide_eq_true hb9
      refine W.condFb rfl (nT hb9) ?_
      refine W.skip ?_
      refine hK3 _ _ ?_
      refine W.seqK fun K10 hK10 => ?_
      refine W.seqK fun K11 hK11 => ?_
      refine W.region ?_
      refine Rg.od rfl rfl rfl (OpT.assign rfl ?_)
      refine Rg.nil ?_
      refine hK11 _ _ ?_
      refine W.block ?_
      refine W.loop (σ := Nat) (fun q e w' => Sub [(0, .agg ([.int .u8 k, .int .i64 n, .string s, .slice la ls.length lc, .slice ta ts.length tc].toArray)), (1, .pointer (some ⟨g2, 0, none⟩)), (2, .bool false), (3, .int .i64 ((q : Nat) : Int)), (7, .pointer (some ⟨g2, 0, none⟩)), (8, .int .u8 k), (9, .int .i64 (kidsI k)), (10, .bool (decide (kidsI k < 0))), (11, .bool (decide (kidsI k < 0))), (12, .pointer (some ⟨g2, 4, none⟩)), (13, .slice ta ts.length tc), (14, .int .i64 ((ts.length : Nat) : Int)), (15, .pointer (some ⟨g2, 0, none⟩)), (16, .int .u8 k), (17, .int .i64 (kidsI k)), (18, .bool (!decide (((ts.length : Nat) : Int) = kidsI k))), (19, .bool (!decide (((ts.length : Nat) : Int) = kidsI k)))] e ∧ Ext w8 w' ∧ q ≤ ls.length ∧ ∀ i, i < q → ∀ l, ls[i]? = some l → l.may = true) (fun q => ls.length - q) 0
        ⟨⟨rfl, rfl, rfl, rfl, rfl, rfl, rfl, rfl, rfl, rfl, rfl, rfl, rfl, rfl, rfl, rfl, rfl, trivial⟩, Mod.refl _ _, Nat.zero_le _, fun i hi => by omega⟩ ?_
      rintro s12 en12 w12 ⟨hs12, x12, hi12_0, hi12_1⟩
      refine W.sub hs12 ?_
      refine W.seqK fun K13 hK13 => ?_
      refine W.seqK fun K14 hK14 => ?_
      refine W.region ?_
      refine Rg.od rfl rfl rfl (OpT.move rfl ?_)
      refine Rg.od rfl rfl rfl (OpT.fieldAddrB (off := 3) Tryz.underlying33 rfl Tryz.sizeOf30 rfl rfl ?_)
      refine Rg.od rfl rfl rfl (OpT.loadB Tryz.isAgg30 rfl (b2.ext (x8.trans x12)) rfl ?_)
      refine Rg.od rfl rfl rfl (OpT.lenS Tryz.underlying30 rfl ?_)
      refine Rg.od rfl rfl rfl (OpT.lss rfl rfl ?_)
      refine Rg.nil ?_
      refine hK14 _ _ ?_
      rcases Bool.eq_false_or_eq_true (decide (((s12 : Nat) : Int) < ((ls.length : Nat) : Int))) with hb15 | hb15
      · have hp15 := of_decide_eq_true hb15
        refine W.condTb rfl hb15 ?_
        refine W.skip ?_
        refine hK13 _ _ ?_
        refine W.seqK fun K16 hK16 => ?_
        refine W.block ?_
        refine W.seqK fun K17 hK17 => ?_
        refine W.region ?_
        refine Rg.od rfl rfl rfl (OpT.fieldAddrB (off := 3) Tryz.underlying33 rfl Tryz.sizeOf30 rfl rfl ?_)
        refine Rg.od rfl rfl rfl (OpT.loadB Tryz.isAgg30 rfl (b2.ext (x8.trans x12)) rfl ?_)
        refine Rg.od rfl rfl rfl (OpT.move rfl ?_)
        obtain ⟨a18, ha18, hr18, hw18, hv18⟩ := hL.at (i := s12) (by first | omega | (unfold lenOk at *; omega))
        refine Rg.od rfl rfl rfl (OpT.indexAddr Tryz.underlying30 Tryz.sizeOf63 rfl rfl ha18 (by first | omega | (unfold lenOk at *; omega)) ?_)
        refine Rg.od rfl rfl rfl (OpT.loadA (cs := [.int .i64 (ls[s12].c), .int .i64 (ls[s12].p0), .int .i64 (ls[s12].p1), .int .i64 (ls[s12].p2), .int .i64 (ls[s12].p3)]) Tryz.isAgg63 Tryz.sizeOf63 rfl (hw18.ext ((x2.trans x8).trans x12)) ?_)
        refine Rg.od rfl rfl rfl (OpT.call Tryz.call136 (.cons rfl .nil) (Runs.mono (rmay_runs _ _) ?_))
        rintro _ w19 ⟨rfl, x19⟩
        refine Rg.od rfl rfl rfl (OpT.notB rfl ?_)
        refine Rg.nil ?_
        refine hK17 _ _ ?_
        rcases Bool.eq_false_or_eq_true ((ls[s12]).may) with hb20 | hb20
        · have hp20 := hb20
          refine W.condFb rfl (nT hb20) ?_
          refine W.skip ?_
          refine hK16 _ _ ?_
          refine W.region ?_
          refine Rg.od rfl rfl rfl (OpT.move rfl ?_)
          refine Rg.od rfl rfl rfl (OpT.add rfl rfl (by first | omega | (unfold lenOk at *; omega)) ?_)
          refine Rg.od rfl rfl rfl (OpT.assign rfl ?_)
          refine Rg.nil ?_
          exact ⟨s12 + 1, ⟨⟨rfl, rfl, rfl, rfl, rfl, rfl, rfl, rfl, rfl, rfl, rfl, rfl, rfl, rfl, rfl, rfl, rfl, trivial⟩, (x12.trans x19), by omega, all_succ hi12_1 (fun l hl => by rw [List.getElem?_eq_getElem (by omega)] at hl; cases hl; exact hb20)⟩, by omega⟩
        · have hp20 := hb20
          refine W.condTb rfl (nF hb20) ?_
          refine W.seqK fun K21 hK21 => ?_
          refine W.region ?_
          refine Rg.od rfl rfl rfl (OpT.assign rfl ?_)
          refine Rg.nil ?_
          refine hK21 _ _ ?_
          refine W.ret ?_
          refine ⟨_, Res.one rfl rfl, ?_⟩
          refine ⟨congrArg Value.bool ?_, (((x2.trans x8).trans x12).trans x19)⟩
          refine nodeEq ?_
          have hno := all_no (p := L.may) (by omega) hb20
          clear hv hL hT hl ht hs hn
          grind
      · have hp15 := of_decide_eq_false hb15
        refine W.condFb rfl hb15 ?_
        refine W.exit ?_
        refine hK10 _ _ ?_
        refine W.seqK fun K22 hK22 => ?_
        refine W.region ?_
        refine Rg.od rfl rfl rfl (OpT.fieldAddrB (off := 2) Tryz.underlying33 rfl Tryz.sizeOf9 rfl rfl ?_)
        refine Rg.od rfl rfl rfl (OpT.loadB Tryz.isAgg9 rfl (b2.ext (x8.trans x12)) rfl ?_)
        refine Rg.od rfl rfl rfl (OpT.eqlS rfl rfl ?_)
        refine Rg.od rfl rfl rfl (OpT.assign rfl ?_)
        refine Rg.nil ?_
        refine hK22 _ _ ?_
        refine W.seqK fun K23 hK23 => ?_
        refine W.region ?_
        refine Rg.od rfl rfl rfl (OpT.fieldAddrB (off := 1) Tryz.underlying33 rfl Tryz.sizeOf3 rfl rfl ?_)
        refine Rg.od rfl rfl rfl (OpT.loadB Tryz.isAgg3 rfl (b2.ext (x8.trans x12)) rfl ?_)
        refine Rg.od rfl rfl rfl (OpT.eqlI rfl rfl ?_)
        refine Rg.od rfl rfl rfl (OpT.assign rfl ?_)
        refine Rg.nil ?_
        refine hK23 _ _ ?_
        refine W.seqK fun K24 hK24 => ?_
        refine W.region ?_
        refine Rg.od rfl rfl rfl (OpT.fieldAddrB (off := 3) Tryz.underlying33 rfl Tryz.sizeOf30 rfl rfl ?_)
        refine Rg.od rfl rfl rfl (OpT.loadB Tryz.isAgg30 rfl (b2.ext (x8.trans x12)) rfl ?_)
        refine Rg.od rfl rfl rfl (OpT.lenS Tryz.underlying30 rfl ?_)
        refine Rg.od rfl rfl rfl (OpT.eqlI rfl rfl ?_)
        refine Rg.od rfl rfl rfl (OpT.assign rfl ?_)
        refine Rg.nil ?_
        refine hK24 _ _ ?_
        refine W.seqK fun K25 hK25 => ?_
        refine W.seqK fun K26 hK26 => ?_
        refine W.region ?_
        refine Rg.od rfl rfl rfl (OpT.fieldAddrB (off := 0) Tryz.underlying33 rfl Tryz.sizeOf5 rfl rfl ?_)
        refine Rg.od rfl rfl rfl (OpT.loadB Tryz.isAgg5 rfl (b2.ext (x8.trans x12)) rfl ?_)
        refine Rg.nil ?_
        refine hK26 _ _ ?_
        refine W.block ?_
        refine W.seqK fun K27 hK27 => ?_
        refine W.region ?_
        refine Rg.od rfl rfl rfl (OpT.eqlI rfl rfl ?_)
        refine Rg.od rfl rfl rfl (OpT.assign rfl ?_)
        refine Rg.nil ?_
        refine hK27 _ _ ?_
        rcases Bool.eq_false_or_eq_true (decide (k = 1)) with hb28 | hb28
        · have hp28 := of_decide_eq_true hb28
          refine W.condTb rfl hb28 ?_
          refine W.region ?_
          refine Rg.od rfl rfl rfl (OpT.fieldAddrB (off := 3) Tryz.underlying33 rfl Tryz.sizeOf30 rfl rfl ?_)
          refine Rg.od rfl rfl rfl (OpT.loadB Tryz.isAgg30 rfl (b2.ext (x8.trans x12)) rfl ?_)
          refine Rg.od rfl rfl rfl (OpT.lenS Tryz.underlying30 rfl ?_)
          refine Rg.od rfl rfl rfl (OpT.eqlI rfl rfl ?_)
          refine Rg.od rfl rfl rfl (OpT.assign rfl ?_)
          refine Rg.nil ?_
          refine hK25 _ _ ?_
          refine W.seqK fun K29 hK29 => ?_
          refine W.region ?_
          refine Rg.od rfl rfl rfl (OpT.move rfl ?_)
          refine Rg.od rfl rfl rfl (OpT.move rfl ?_)
          rcases Bool.eq_false_or_eq_true (s.toList == (⟨#[]⟩ : ByteArray).toList) with hb30 | hb30
          · have hp30 := hb30
            refine Rg.gy rfl rfl rfl rfl hb30 (OpT.move rfl ?_)
            refine Rg.od rfl rfl rfl (OpT.pickT rfl hb30 rfl ?_)
            refine Rg.od rfl rfl rfl (OpT.move rfl ?_)
            rcases Bool.eq_false_or_eq_true (decide (n = 0)) with hb31 | hb31
            · have hp31 := of_decide_eq_true hb31
              refine Rg.gy rfl rfl rfl rfl hb31 (OpT.move rfl ?_)
              refine Rg.od rfl rfl rfl (OpT.pickT rfl hb31 rfl ?_)
              refine Rg.od rfl rfl rfl (OpT.assign rfl ?_)
              refine Rg.nil ?_
              refine hK29 _ _ ?_
              refine W.ret ?_
              refine ⟨_, Res.one rfl rfl, ?_⟩
              refine ⟨congrArg Value.bool ?_, ((x2.trans x8).trans x12)⟩
              refine nodeEq ?_
              have hall := all_of_idx hi12_1 (by omega)
              have hz := empty_iff s
              clear hv hL hT hl ht hs hn hi12_1
              grind
            · have hp31 := of_decide_eq_false hb31
              refine Rg.gn rfl rfl rfl rfl hb31 ?_
              refine Rg.od rfl rfl rfl (OpT.pickF rfl hb31 rfl ?_)
              refine Rg.od rfl rfl rfl (OpT.assign rfl ?_)
              refine Rg.nil ?_
              refine hK29 _ _ ?_
              refine W.ret ?_
              refine ⟨_, Res.one rfl rfl, ?_⟩
              refine ⟨congrArg Value.bool ?_, ((x2.trans x8).trans x12)⟩
              refine nodeEq ?_
              have hall := all_of_idx hi12_1 (by omega)
              have hz := empty_iff s
              clear hv hL hT hl ht hs hn hi12_1
              grind
          · have hp30 := hb30
            refine Rg.gn rfl rfl rfl rfl hb30 ?_
            refine Rg.od rfl rfl rfl (OpT.pickF rfl hb30 rfl ?_)
            refine Rg.od rfl rfl rfl (OpT.move rfl ?_)
            refine Rg.gn rfl rfl rfl rfl rfl ?_
            refine Rg.od rfl rfl rfl (OpT.pickF rfl rfl rfl ?_)
            refine Rg.od rfl rfl rfl (OpT.assign rfl ?_)
            refine Rg.nil ?_
            refine hK29 _ _ ?_
            refine W.ret ?_
            refine ⟨_, Res.one rfl rfl, ?_⟩
            refine ⟨congrArg Value.bool ?_, ((x2.trans x8).trans x12)⟩
            refine nodeEq ?_
            have hall := all_of_idx hi12_1 (by omega)
            have hz := empty_iff s
            clear hv hL hT hl ht hs hn hi12_1
            grind
        · have hp28 := of_decide_eq_false hb28
          refine W.condFb rfl hb28 ?_
          refine W.seqK fun K32 hK32 => ?_
          refine W.region ?_
          refine Rg.od rfl rfl rfl (OpT.eqlI rfl rfl ?_)
          refine Rg.od rfl rfl rfl (OpT.assign rfl ?_)
          refine Rg.nil ?_
          refine hK32 _ _ ?_
          rcases Bool.eq_false_or_eq_true (decide (k = 2)) with hb33 | hb33
          · have hp33 := of_decide_eq_true hb33
            refine W.condTb rfl hb33 ?_
            refine W.region ?_
            refine Rg.od rfl rfl rfl (OpT.fieldAddrB (off := 1) Tryz.underlying33 rfl Tryz.sizeOf3 rfl rfl ?_)
            refine Rg.od rfl rfl rfl (OpT.loadB Tryz.isAgg3 rfl (b2.ext (x8.trans x12)) rfl ?_)
            refine Rg.od rfl rfl rfl (OpT.geq rfl rfl ?_)
            refine Rg.od rfl rfl rfl (OpT.move rfl ?_)
            rcases Bool.eq_false_or_eq_true (decide (0 ≤ n)) with hb34 | hb34
            · have hp34 := of_decide_eq_true hb34
              refine Rg.gy rfl rfl rfl rfl hb34 (OpT.fieldAddrB (off := 1) Tryz.underlying33 rfl Tryz.sizeOf3 rfl rfl ?_)
              refine Rg.gy rfl rfl rfl rfl hb34 (OpT.loadB Tryz.isAgg3 rfl (b2.ext (x8.trans x12)) rfl ?_)
              refine Rg.gy rfl rfl rfl rfl hb34 (OpT.leq rfl rfl ?_)
              refine Rg.od rfl rfl rfl (OpT.pickT rfl hb34 rfl ?_)
              refine Rg.od rfl rfl rfl (OpT.assign rfl ?_)
              refine Rg.nil ?_
              refine hK25 _ _ ?_
              refine W.seqK fun K35 hK35 => ?_
              refine W.region ?_
              refine Rg.od rfl rfl rfl (OpT.move rfl ?_)
              refine Rg.od rfl rfl rfl (OpT.move rfl ?_)
              rcases Bool.eq_false_or_eq_true (s.toList == (⟨#[]⟩ : ByteArray).toList) with hb36 | hb36
              · have hp36 := hb36
                refine Rg.gy rfl rfl rfl rfl hb36 (OpT.move rfl ?_)
                refine Rg.od rfl rfl rfl (OpT.pickT rfl hb36 rfl ?_)
                refine Rg.od rfl rfl rfl (OpT.move rfl ?_)
                rcases Bool.eq_false_or_eq_true (decide (n ≤ 1048576)) with hb37 | hb37
                · have hp37 := of_decide_eq_true hb37
                  refine Rg.gy rfl rfl rfl rfl hb37 (OpT.move rfl ?_)
                  refine Rg.od rfl rfl rfl (OpT.pickT rfl hb37 rfl ?_)
                  refine Rg.od rfl rfl rfl (OpT.assign rfl ?_)
                  refine Rg.nil ?_
                  refine hK35 _ _ ?_
                  refine W.ret ?_
                  refine ⟨_, Res.one rfl rfl, ?_⟩
                  refine ⟨congrArg Value.bool ?_, ((x2.trans x8).trans x12)⟩
                  refine nodeEq ?_
                  have hall := all_of_idx hi12_1 (by omega)
                  have hz := empty_iff s
                  clear hv hL hT hl ht hs hn hi12_1
                  grind
                · have hp37 := of_decide_eq_false hb37
                  refine Rg.gn rfl rfl rfl rfl hb37 ?_
                  refine Rg.od rfl rfl rfl (OpT.pickF rfl hb37 rfl ?_)
                  refine Rg.od rfl rfl rfl (OpT.assign rfl ?_)
                  refine Rg.nil ?_
                  refine hK35 _ _ ?_
                  refine W.ret ?_
                  refine ⟨_, Res.one rfl rfl, ?_⟩
                  refine ⟨congrArg Value.bool ?_, ((x2.trans x8).trans x12)⟩
                  refine nodeEq ?_
                  have hall := all_of_idx hi12_1 (by omega)
                  have hz := empty_iff s
                  clear hv hL hT hl ht hs hn hi12_1
                  grind
              · have hp36 := hb36
                refine Rg.gn rfl rfl rfl rfl hb36 ?_
                refine Rg.od rfl rfl rfl (OpT.pickF rfl hb36 rfl ?_)
                refine Rg.od rfl rfl rfl (OpT.move rfl ?_)
                refine Rg.gn rfl rfl rfl rfl rfl ?_
                refine Rg.od rfl rfl rfl (OpT.pickF rfl rfl rfl ?_)
                refine Rg.od rfl rfl rfl (OpT.assign rfl ?_)
                refine Rg.nil ?_
                refine hK35 _ _ ?_
                refine W.ret ?_
                refine ⟨_, Res.one rfl rfl, ?_⟩
                refine ⟨congrArg Value.bool ?_, ((x2.trans x8).trans x12)⟩
                refine nodeEq ?_
                have hall := all_of_idx hi12_1 (by omega)
                have hz := empty_iff s
                clear hv hL hT hl ht hs hn hi12_1
                grind
            · have hp34 := of_decide_eq_false hb34
              refine Rg.gn rfl rfl rfl rfl hb34 ?_
              refine Rg.gn rfl rfl rfl rfl hb34 ?_
              refine Rg.gn rfl rfl rfl rfl hb34 ?_
              refine Rg.od rfl rfl rfl (OpT.pickF rfl hb34 rfl ?_)
              refine Rg.od rfl rfl rfl (OpT.assign rfl ?_)
              refine Rg.nil ?_
              refine hK25 _ _ ?_
              refine W.seqK fun K38 hK38 => ?_
              refine W.region ?_
              refine Rg.od rfl rfl rfl (OpT.move rfl ?_)
              refine Rg.od rfl rfl rfl (OpT.move rfl ?_)
              rcases Bool.eq_false_or_eq_true (s.toList == (⟨#[]⟩ : ByteArray).toList) with hb39 | hb39
              · have hp39 := hb39
                refine Rg.gy rfl rfl rfl rfl hb39 (OpT.move rfl ?_)
                refine Rg.od rfl rfl rfl (OpT.pickT rfl hb39 rfl ?_)
                refine Rg.od rfl rfl rfl (OpT.move rfl ?_)
                refine Rg.gn rfl rfl rfl rfl rfl ?_
                refine Rg.od rfl rfl rfl (OpT.pickF rfl rfl rfl ?_)
                refine Rg.od rfl rfl rfl (OpT.assign rfl ?_)
                refine Rg.nil ?_
                refine hK38 _ _ ?_
                refine W.ret ?_
                refine ⟨_, Res.one rfl rfl, ?_⟩
                refine ⟨congrArg Value.bool ?_, ((x2.trans x8).trans x12)⟩
                refine nodeEq ?_
                have hall := all_of_idx hi12_1 (by omega)
                have hz := empty_iff s
                clear hv hL hT hl ht hs hn hi12_1
                grind
              · have hp39 := hb39
                refine Rg.gn rfl rfl rfl rfl hb39 ?_
                refine Rg.od rfl rfl rfl (OpT.pickF rfl hb39 rfl ?_)
                refine Rg.od rfl rfl rfl (OpT.move rfl ?_)
                refine Rg.gn rfl rfl rfl rfl rfl ?_
                refine Rg.od rfl rfl rfl (OpT.pickF rfl rfl rfl ?_)
                refine Rg.od rfl rfl rfl (OpT.assign rfl ?_)
                refine Rg.nil ?_
                refine hK38 _ _ ?_
                refine W.ret ?_
                refine ⟨_, Res.one rfl rfl, ?_⟩
                refine ⟨congrArg Value.bool ?_, ((x2.trans x8).trans x12)⟩
                refine nodeEq ?_
                have hall := all_of_idx hi12_1 (by omega)
                have hz := empty_iff s
                clear hv hL hT hl ht hs hn hi12_1
                grind
          · have hp33 := of_decide_eq_false hb33
            refine W.condFb rfl hb33 ?_
            refine W.seqK fun K40 hK40 => ?_
            refine W.region ?_
            refine Rg.od rfl rfl rfl (OpT.eqlI rfl rfl ?_)
            refine Rg.od rfl rfl rfl (OpT.assign rfl ?_)
            refine Rg.nil ?_
            refine hK40 _ _ ?_
            rcases Bool.eq_false_or_eq_true (decide (k = 3)) with hb41 | hb41
            · have hp41 := of_decide_eq_true hb41
              refine W.condTb rfl hb41 ?_
              refine W.seqK fun K42 hK42 => ?_
              refine W.region ?_
              refine Rg.od rfl rfl rfl (OpT.fieldAddrB (off := 2) Tryz.underlying33 rfl Tryz.sizeOf9 rfl rfl ?_)
              refine Rg.od rfl rfl rfl (OpT.loadB Tryz.isAgg9 rfl (b2.ext (x8.trans x12)) rfl ?_)
              refine Rg.od rfl rfl rfl (OpT.call Tryz.call129 (.cons rfl .nil) (Runs.mono (rname_runs _ (by first | assumption | omega) _) ?_))
              rintro _ w43 ⟨rfl, x43⟩
              refine Rg.od rfl rfl rfl (OpT.assign rfl ?_)
              refine Rg.nil ?_
              refine hK42 _ _ ?_
              refine W.region ?_
              refine Rg.od rfl rfl rfl (OpT.fieldAddrB (off := 3) Tryz.underlying33 rfl Tryz.sizeOf30 rfl rfl ?_)
              refine Rg.od rfl rfl rfl (OpT.loadB Tryz.isAgg30 rfl (b2.ext ((x8.trans x12).trans x43)) rfl ?_)
              refine Rg.od rfl rfl rfl (OpT.lenS Tryz.underlying30 rfl ?_)
              refine Rg.od rfl rfl rfl (OpT.leq rfl rfl ?_)
              refine Rg.od rfl rfl rfl (OpT.assign rfl ?_)
              refine Rg.nil ?_
              refine hK25 _ _ ?_
              refine W.seqK fun K44 hK44 => ?_
              refine W.region ?_
              refine Rg.od rfl rfl rfl (OpT.move rfl ?_)
              refine Rg.od rfl rfl rfl (OpT.move rfl ?_)
              rcases Bool.eq_false_or_eq_true (nameB s) with hb45 | hb45
              · have hp45 := hb45
                refine Rg.gy rfl rfl rfl rfl hb45 (OpT.move rfl ?_)
                refine Rg.od rfl rfl rfl (OpT.pickT rfl hb45 rfl ?_)
                refine Rg.od rfl rfl rfl (OpT.move rfl ?_)
                rcases Bool.eq_false_or_eq_true (decide (n = 0)) with hb46 | hb46
                · have hp46 := of_decide_eq_true hb46
                  refine Rg.gy rfl rfl rfl rfl hb46 (OpT.move rfl ?_)
                  refine Rg.od rfl rfl rfl (OpT.pickT rfl hb46 rfl ?_)
                  refine Rg.od rfl rfl rfl (OpT.assign rfl ?_)
                  refine Rg.nil ?_
                  refine hK44 _ _ ?_
                  refine W.ret ?_
                  refine ⟨_, Res.one rfl rfl, ?_⟩
                  refine ⟨congrArg Value.bool ?_, (((x2.trans x8).trans x12).trans x43)⟩
                  refine nodeEq ?_
                  have hall := all_of_idx hi12_1 (by omega)
                  have hz := empty_iff s
                  clear hv hL hT hl ht hs hn hi12_1
                  grind
                · have hp46 := of_decide_eq_false hb46
                  refine Rg.gn rfl rfl rfl rfl hb46 ?_
                  refine Rg.od rfl rfl rfl (OpT.pickF rfl hb46 rfl ?_)
                  refine Rg.od rfl rfl rfl (OpT.assign rfl ?_)
                  refine Rg.nil ?_
                  refine hK44 _ _ ?_
                  refine W.ret ?_
                  refine ⟨_, Res.one rfl rfl, ?_⟩
                  refine ⟨congrArg Value.bool ?_, (((x2.trans x8).trans x12).trans x43)⟩
                  refine nodeEq ?_
                  have hall := all_of_idx hi12_1 (by omega)
                  have hz := empty_iff s
                  clear hv hL hT hl ht hs hn hi12_1
                  grind
              · have hp45 := hb45
                refine Rg.gn rfl rfl rfl rfl hb45 ?_
                refine Rg.od rfl rfl rfl (OpT.pickF rfl hb45 rfl ?_)
                refine Rg.od rfl rfl rfl (OpT.move rfl ?_)
                refine Rg.gn rfl rfl rfl rfl rfl ?_
                refine Rg.od rfl rfl rfl (OpT.pickF rfl rfl rfl ?_)
                refine Rg.od rfl rfl rfl (OpT.assign rfl ?_)
                refine Rg.nil ?_
                refine hK44 _ _ ?_
                refine W.ret ?_
                refine ⟨_, Res.one rfl rfl, ?_⟩
                refine ⟨congrArg Value.bool ?_, (((x2.trans x8).trans x12).trans x43)⟩
                refine nodeEq ?_
                have hall := all_of_idx hi12_1 (by omega)
                have hz := empty_iff s
                clear hv hL hT hl ht hs hn hi12_1
                grind
            · have hp41 := of_decide_eq_false hb41
              refine W.condFb rfl hb41 ?_
              refine W.seqK fun K47 hK47 => ?_
              refine W.region ?_
              refine Rg.od rfl rfl rfl (OpT.eqlI rfl rfl ?_)
              refine Rg.od rfl rfl rfl (OpT.assign rfl ?_)
              refine Rg.nil ?_
              refine hK47 _ _ ?_
              rcases Bool.eq_false_or_eq_true (decide (k = 8)) with hb48 | hb48
              · have hp48 := of_decide_eq_true hb48
                refine W.condTb rfl hb48 ?_
                refine W.seqK fun K49 hK49 => ?_
                refine W.region ?_
                refine Rg.od rfl rfl rfl (OpT.fieldAddrB (off := 2) Tryz.underlying33 rfl Tryz.sizeOf9 rfl rfl ?_)
                refine Rg.od rfl rfl rfl (OpT.loadB Tryz.isAgg9 rfl (b2.ext (x8.trans x12)) rfl ?_)
                refine Rg.od rfl rfl rfl (OpT.call Tryz.call129 (.cons rfl .nil) (Runs.mono (rname_runs _ (by first | assumption | omega) _) ?_))
                rintro _ w50 ⟨rfl, x50⟩
                refine Rg.od rfl rfl rfl (OpT.assign rfl ?_)
                refine Rg.nil ?_
                refine hK49 _ _ ?_
                refine W.region ?_
                refine Rg.od rfl rfl rfl (OpT.fieldAddrB (off := 1) Tryz.underlying33 rfl Tryz.sizeOf3 rfl rfl ?_)
                refine Rg.od rfl rfl rfl (OpT.loadB Tryz.isAgg3 rfl (b2.ext ((x8.trans x12).trans x50)) rfl ?_)
                refine Rg.od rfl rfl rfl (OpT.geq rfl rfl ?_)
                refine Rg.od rfl rfl rfl (OpT.move rfl ?_)
                rcases Bool.eq_false_or_eq_true (decide (0 ≤ n)) with hb51 | hb51
                · have hp51 := of_decide_eq_true hb51
                  refine Rg.gy rfl rfl rfl rfl hb51 (OpT.fieldAddrB (off := 1) Tryz.underlying33 rfl Tryz.sizeOf3 rfl rfl ?_)
                  refine Rg.gy rfl rfl rfl rfl hb51 (OpT.loadB Tryz.isAgg3 rfl (b2.ext ((x8.trans x12).trans x50)) rfl ?_)
                  refine Rg.gy rfl rfl rfl rfl hb51 (OpT.lss rfl rfl ?_)
                  refine Rg.od rfl rfl rfl (OpT.pickT rfl hb51 rfl ?_)
                  refine Rg.od rfl rfl rfl (OpT.assign rfl ?_)
                  refine Rg.nil ?_
                  refine hK25 _ _ ?_
                  refine W.seqK fun K52 hK52 => ?_
                  refine W.region ?_
                  refine Rg.od rfl rfl rfl (OpT.move rfl ?_)
                  refine Rg.od rfl rfl rfl (OpT.move rfl ?_)
                  rcases Bool.eq_false_or_eq_true (nameB s) with hb53 | hb53
                  · have hp53 := hb53
                    refine Rg.gy rfl rfl rfl rfl hb53 (OpT.move rfl ?_)
                    refine Rg.od rfl rfl rfl (OpT.pickT rfl hb53 rfl ?_)
                    refine Rg.od rfl rfl rfl (OpT.move rfl ?_)
                    rcases Bool.eq_false_or_eq_true (decide (n < 12)) with hb54 | hb54
                    · have hp54 := of_decide_eq_true hb54
                      refine Rg.gy rfl rfl rfl rfl hb54 (OpT.move rfl ?_)
                      refine Rg.od rfl rfl rfl (OpT.pickT rfl hb54 rfl ?_)
                      refine Rg.od rfl rfl rfl (OpT.assign rfl ?_)
                      refine Rg.nil ?_
                      refine hK52 _ _ ?_
                      refine W.ret ?_
                      refine ⟨_, Res.one rfl rfl, ?_⟩
                      refine ⟨congrArg Value.bool ?_, (((x2.trans x8).trans x12).trans x50)⟩
                      refine nodeEq ?_
                      have hall := all_of_idx hi12_1 (by omega)
                      have hz := empty_iff s
                      clear hv hL hT hl ht hs hn hi12_1
                      grind
                    · have hp54 := of_decide_eq_false hb54
                      refine Rg.gn rfl rfl rfl rfl hb54 ?_
                      refine Rg.od rfl rfl rfl (OpT.pickF rfl hb54 rfl ?_)
                      refine Rg.od rfl rfl rfl (OpT.assign rfl ?_)
                      refine Rg.nil ?_
                      refine hK52 _ _ ?_
                      refine W.ret ?_
                      refine ⟨_, Res.one rfl rfl, ?_⟩
                      refine ⟨congrArg Value.bool ?_, (((x2.trans x8).trans x12).trans x50)⟩
                      refine nodeEq ?_
                      have hall := all_of_idx hi12_1 (by omega)
                      have hz := empty_iff s
                      clear hv hL hT hl ht hs hn hi12_1
                      grind
                  · have hp53 := hb53
                    refine Rg.gn rfl rfl rfl rfl hb53 ?_
                    refine Rg.od rfl rfl rfl (OpT.pickF rfl hb53 rfl ?_)
                    refine Rg.od rfl rfl rfl (OpT.move rfl ?_)
                    refine Rg.gn rfl rfl rfl rfl rfl ?_
                    refine Rg.od rfl rfl rfl (OpT.pickF rfl rfl rfl ?_)
                    refine Rg.od rfl rfl rfl (OpT.assign rfl ?_)
                    refine Rg.nil ?_
                    refine hK52 _ _ ?_
                    refine W.ret ?_
                    refine ⟨_, Res.one rfl rfl, ?_⟩
                    refine ⟨congrArg Value.bool ?_, (((x2.trans x8).trans x12).trans x50)⟩
                    refine nodeEq ?_
                    have hall := all_of_idx hi12_1 (by omega)
                    have hz := empty_iff s
                    clear hv hL hT hl ht hs hn hi12_1
                    grind
                · have hp51 := of_decide_eq_false hb51
                  refine Rg.gn rfl rfl rfl rfl hb51 ?_
                  refine Rg.gn rfl rfl rfl rfl hb51 ?_
                  refine Rg.gn rfl rfl rfl rfl hb51 ?_
                  refine Rg.od rfl rfl rfl (OpT.pickF rfl hb51 rfl ?_)
                  refine Rg.od rfl rfl rfl (OpT.assign rfl ?_)
                  refine Rg.nil ?_
                  refine hK25 _ _ ?_
                  refine W.seqK fun K55 hK55 => ?_
                  refine W.region ?_
                  refine Rg.od rfl rfl rfl (OpT.move rfl ?_)
                  refine Rg.od rfl rfl rfl (OpT.move rfl ?_)
                  rcases Bool.eq_false_or_eq_true (nameB s) with hb56 | hb56
                  · have hp56 := hb56
                    refine Rg.gy rfl rfl rfl rfl hb56 (OpT.move rfl ?_)
                    refine Rg.od rfl rfl rfl (OpT.pickT rfl hb56 rfl ?_)
                    refine Rg.od rfl rfl rfl (OpT.move rfl ?_)
                    refine Rg.gn rfl rfl rfl rfl rfl ?_
                    refine Rg.od rfl rfl rfl (OpT.pickF rfl rfl rfl ?_)
                    refine Rg.od rfl rfl rfl (OpT.assign rfl ?_)
                    refine Rg.nil ?_
                    refine hK55 _ _ ?_
                    refine W.ret ?_
                    refine ⟨_, Res.one rfl rfl, ?_⟩
                    refine ⟨congrArg Value.bool ?_, (((x2.trans x8).trans x12).trans x50)⟩
                    refine nodeEq ?_
                    have hall := all_of_idx hi12_1 (by omega)
                    have hz := empty_iff s
                    clear hv hL hT hl ht hs hn hi12_1
                    grind
                  · have hp56 := hb56
                    refine Rg.gn rfl rfl rfl rfl hb56 ?_
                    refine Rg.od rfl rfl rfl (OpT.pickF rfl hb56 rfl ?_)
                    refine Rg.od rfl rfl rfl (OpT.move rfl ?_)
                    refine Rg.gn rfl rfl rfl rfl rfl ?_
                    refine Rg.od rfl rfl rfl (OpT.pickF rfl rfl rfl ?_)
                    refine Rg.od rfl rfl rfl (OpT.assign rfl ?_)
                    refine Rg.nil ?_
                    refine hK55 _ _ ?_
                    refine W.ret ?_
                    refine ⟨_, Res.one rfl rfl, ?_⟩
                    refine ⟨congrArg Value.bool ?_, (((x2.trans x8).trans x12).trans x50)⟩
                    refine nodeEq ?_
                    have hall := all_of_idx hi12_1 (by omega)
                    have hz := empty_iff s
                    clear hv hL hT hl ht hs hn hi12_1
                    grind
              · have hp48 := of_decide_eq_false hb48
                refine W.condFb rfl hb48 ?_
                refine W.skip ?_
                refine hK25 _ _ ?_
                refine W.seqK fun K57 hK57 => ?_
                refine W.region ?_
                refine Rg.od rfl rfl rfl (OpT.move rfl ?_)
                refine Rg.od rfl rfl rfl (OpT.move rfl ?_)
                rcases Bool.eq_false_or_eq_true (s.toList == (⟨#[]⟩ : ByteArray).toList) with hb58 | hb58
                · have hp58 := hb58
                  refine Rg.gy rfl rfl rfl rfl hb58 (OpT.move rfl ?_)
                  refine Rg.od rfl rfl rfl (OpT.pickT rfl hb58 rfl ?_)
                  refine Rg.od rfl rfl rfl (OpT.move rfl ?_)
                  rcases Bool.eq_false_or_eq_true (decide (n = 0)) with hb59 | hb59
                  · have hp59 := of_decide_eq_true hb59
                    refine Rg.gy rfl rfl rfl rfl hb59 (OpT.move rfl ?_)
                    refine Rg.od rfl rfl rfl (OpT.pickT rfl hb59 rfl ?_)
                    refine Rg.od rfl rfl rfl (OpT.assign rfl ?_)
                    refine Rg.nil ?_
                    refine hK57 _ _ ?_
                    refine W.ret ?_
                    refine ⟨_, Res.one rfl rfl, ?_⟩
                    refine ⟨congrArg Value.bool ?_, ((x2.trans x8).trans x12)⟩
                    refine nodeEq ?_
                    have hall := all_of_idx hi12_1 (by omega)
                    have hz := empty_iff s
                    clear hv hL hT hl ht hs hn hi12_1
                    grind
                  · have hp59 := of_decide_eq_false hb59
                    refine Rg.gn rfl rfl rfl rfl hb59 ?_
                    refine Rg.od rfl rfl rfl (OpT.pickF rfl hb59 rfl ?_)
                    refine Rg.od rfl rfl rfl (OpT.assign rfl ?_)
                    refine Rg.nil ?_
                    refine hK57 _ _ ?_
                    refine W.ret ?_
                    refine ⟨_, Res.one rfl rfl, ?_⟩
                    refine ⟨congrArg Value.bool ?_, ((x2.trans x8).trans x12)⟩
                    refine nodeEq ?_
                    have hall := all_of_idx hi12_1 (by omega)
                    have hz := empty_iff s
                    clear hv hL hT hl ht hs hn hi12_1
                    grind
                · have hp58 := hb58
                  refine Rg.gn rfl rfl rfl rfl hb58 ?_
                  refine Rg.od rfl rfl rfl (OpT.pickF rfl hb58 rfl ?_)
                  refine Rg.od rfl rfl rfl (OpT.move rfl ?_)
                  refine Rg.gn rfl rfl rfl rfl rfl ?_
                  refine Rg.od rfl rfl rfl (OpT.pickF rfl rfl rfl ?_)
                  refine Rg.od rfl rfl rfl (OpT.assign rfl ?_)
                  refine Rg.nil ?_
                  refine hK57 _ _ ?_
                  refine W.ret ?_
                  refine ⟨_, Res.one rfl rfl, ?_⟩
                  refine ⟨congrArg Value.bool ?_, ((x2.trans x8).trans x12)⟩
                  refine nodeEq ?_
                  have hall := all_of_idx hi12_1 (by omega)
                  have hz := empty_iff s
                  clear hv hL hT hl ht hs hn hi12_1
                  grind
    · have hp9 := of_decide_eq_false hb9
      refine W.condTb rfl (nF hb9) ?_
      refine W.seqK fun K60 hK60 => ?_
      refine W.region ?_
      refine Rg.od rfl rfl rfl (OpT.assign rfl ?_)
      refine Rg.nil ?_
      refine hK60 _ _ ?_
      refine W.ret ?_
      refine ⟨_, Res.one rfl rfl, ?_⟩
      refine ⟨congrArg Value.bool ?_, (x2.trans x8)⟩
      refine nodeEq ?_
      have hz := empty_iff s
      clear hv hL hT hl ht hs hn 
      grind
end Go.Proofs.YtfljbnhhkdaobaaGreat
