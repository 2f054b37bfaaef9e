import Derived.Test.YtfljbnhhkdaobaaGreatA3
import Derived.Test.YtfljbnhhkdaobaaGreatA1
import Derived.Test.YtfljbnhhkdaobaaGreatRows
import Derived.Test.YtfljbnhhkdaobaaGreatProg
import Derived.WalkKit
import Derived.RangeFuncNested
import Derived.RangeFuncBound
import Derived.RangeFuncCalls
import Derived.RangeFuncLeaves
import Derived.Shelf.Abstract
import Derived.Shelf.RegionOpen
import Derived.OwnWalkIn
import Derived.TacticsInMore
import Derived.LoopNIn
import Derived.LoopIn
namespace Go.Proofs.YtfljbnhhkdaobaaGreat
open Go Go.RowKit Go.Proofs.Bw
set_option linter.unusedVariables false
set_option linter.unusedSimpArgs false
theorem mixed : Tryz.prog.follows .mixedOrders = true := by kernel_rfl
theorem eqL_in (a b : L) (w : World) : (Op.equalIn 10000 63 (.agg a.cells.toArray) (.agg b.cells.toArray)).run Tryz.prog w = .ok (a.same b) w :=
  run_equalL 9997 63 61 3 Tryz.underlying63 rfl ⟨by decide, rfl, rfl⟩ ⟨by decide, rfl, rfl⟩ Tryz.stoodInHeld63 Tryz.underlying61 Tryz.sizeOf3 Tryz.isAgg3 Tryz.isAgg61 Tryz.sizeOf61 Tryz.underlying3 w a b
section
variable {e : Env} {w : World} {K : Value → World → Prop} {d : Option Tmp} {t : TypeId} {pos : String} {af : Array Edge} {g : Option (Nat × Bool)} {x y : Operand} {yt : TypeId} {a b : L}
theorem OpT.eqlL (hx : evalO e x = some (.agg a.cells.toArray)) (hy : evalO e y = some (.agg b.cells.toArray)) (h : K (.bool (a.same b)) w) : OpT Tryz.prog e w ⟨d, .binOp .eql 63 x y yt, t, pos, af, g⟩ K :=
  Bw.OpT.value (fun ρ hρ => by simp [execOp, hρ x _ hx, hρ y _ hy, run_eqGuard_agg w _ _ _ _ _ _ Tryz.eqGuardType63, run_eql_struct, eqL_in]) h
end
end Go.Proofs.YtfljbnhhkdaobaaGreat

/-
  The types and functions of this seat, as the conditions of code know them (printed by a program of this work).
-/
namespace Go.Proofs.YtfljbnhhkdaobaaGreat
open Go Go.RowKit Go.Proofs.Bw
noncomputable def tab : Tab := [(3, ⟨false, 1, [.int .i64 0], .int .i64⟩),
  (4, ⟨false, 1, [.bool false], .bool⟩),
  (5, ⟨false, 1, [.int .u8 0], .int .u8⟩),
  (9, ⟨false, 1, [.string ⟨#[]⟩], .str⟩),
  (22, ⟨false, 1, [.slice none 0 0], .slice 36 25⟩),
  (25, ⟨false, 1, [.pointer none], .ptr⟩),
  (28, ⟨false, 1, [.slice none 0 0], .slice 9 1⟩),
  (30, ⟨false, 1, [.slice none 0 0], .slice 63 5⟩),
  (31, ⟨false, 1, [.slice none 0 0], .slice 33 5⟩),
  (33, ⟨true, 5, [.int .u8 0, .int .i64 0, .string ⟨#[]⟩, .slice none 0 0, .slice none 0 0], .struct [⟨0, 1, false⟩, ⟨1, 1, false⟩, ⟨2, 1, false⟩, ⟨3, 1, false⟩, ⟨4, 1, false⟩]⟩),
  (34, ⟨false, 1, [.slice none 0 0], .slice 84 7⟩),
  (36, ⟨true, 25, [.int .u8 0, .string ⟨#[]⟩, .int .i64 0, .int .u8 0, .int .i64 0, .string ⟨#[]⟩, .slice none 0 0, .slice none 0 0, .int .u8 0, .int .i64 0, .string ⟨#[]⟩, .slice none 0 0, .slice none 0 0, .int .i64 0, .string ⟨#[]⟩, .string ⟨#[]⟩, .int .i64 0, .int .i64 0, .int .i64 0, .int .i64 0, .int .i64 0, .int .i64 0, .slice none 0 0, .int .i64 0, .bool false], .struct [⟨0, 1, false⟩, ⟨1, 1, false⟩, ⟨2, 1, false⟩, ⟨3, 5, true⟩, ⟨8, 5, true⟩, ⟨13, 1, false⟩, ⟨14, 1, false⟩, ⟨15, 1, false⟩, ⟨16, 1, false⟩, ⟨17, 1, false⟩, ⟨18, 1, false⟩, ⟨19, 1, false⟩, ⟨20, 1, false⟩, ⟨21, 1, false⟩, ⟨22, 1, false⟩, ⟨23, 1, false⟩, ⟨24, 1, false⟩]⟩),
  (40, ⟨false, 1, [.int .i64 0], .int .i64⟩),
  (45, ⟨false, 1, [.nilFunc], .other⟩),
  (46, ⟨false, 1, [.pointer none], .ptr⟩),
  (61, ⟨true, 4, [.int .i64 0, .int .i64 0, .int .i64 0, .int .i64 0], .arr 4 3 1 false⟩),
  (63, ⟨true, 5, [.int .i64 0, .int .i64 0, .int .i64 0, .int .i64 0, .int .i64 0], .struct [⟨0, 1, false⟩, ⟨1, 4, true⟩]⟩),
  (84, ⟨true, 7, [.string ⟨#[]⟩, .int .i64 0, .int .u8 0, .int .i64 0, .string ⟨#[]⟩, .slice none 0 0, .slice none 0 0], .struct [⟨0, 1, false⟩, ⟨1, 1, false⟩, ⟨2, 5, true⟩]⟩),
  (89, ⟨false, 1, [.map none], .other⟩),
  (91, ⟨true, 2, [.map none, .slice none 0 0], .struct [⟨0, 1, false⟩, ⟨1, 1, false⟩]⟩),
  (95, ⟨false, 1, [.nilFunc], .other⟩),
  (97, ⟨false, 1, [.map none], .other⟩),
  (99, ⟨true, 2, [.pointer none, .bool false], .struct [⟨0, 1, false⟩, ⟨1, 1, false⟩]⟩),
  (115, ⟨true, 33, [.int .u8 0, .string ⟨#[]⟩, .int .i64 0, .int .u8 0, .int .i64 0, .string ⟨#[]⟩, .slice none 0 0, .slice none 0 0, .int .u8 0, .int .i64 0, .string ⟨#[]⟩, .slice none 0 0, .slice none 0 0, .int .i64 0, .string ⟨#[]⟩, .string ⟨#[]⟩, .int .i64 0, .int .i64 0, .int .i64 0, .int .i64 0, .int .i64 0, .int .i64 0, .slice none 0 0, .int .i64 0, .bool false, .int .u8 0, .int .i64 0, .string ⟨#[]⟩, .slice none 0 0, .slice none 0 0, .slice none 0 0, .int .i64 0, .int .i64 0], .struct [⟨0, 25, true⟩, ⟨25, 5, true⟩, ⟨30, 1, false⟩, ⟨31, 1, false⟩, ⟨32, 1, false⟩]⟩),
  (128, ⟨false, 1, [.nilFunc], .other⟩),
  (129, ⟨false, 1, [.nilFunc], .other⟩),
  (134, ⟨false, 1, [.nilFunc], .other⟩),
  (136, ⟨false, 1, [.nilFunc], .other⟩),
  (138, ⟨true, 1, [.slice none 0 0], .struct [⟨0, 1, false⟩]⟩),
  (146, ⟨false, 1, [.int .u64 0], .int .u64⟩),
  (147, ⟨false, 1, [.slice none 0 0], .slice 5 1⟩),
  (149, ⟨false, 1, [.slice none 0 0], .slice 3 1⟩),
  (151, ⟨false, 1, [.nilFunc], .other⟩),
  (152, ⟨false, 1, [.nilFunc], .other⟩),
  (156, ⟨false, 1, [.nilFunc], .other⟩),
  (160, ⟨false, 1, [.int .i64 0], .int .i64⟩),
  (168, ⟨false, 1, [.int .u32 0], .int .u32⟩),
  (170, ⟨false, 1, [.int .u64 0], .int .u64⟩),
  (182, ⟨false, 1, [.int .u64 0], .int .u64⟩),
  (186, ⟨false, 1, [.pointer none], .ptr⟩)]
noncomputable def cx : Cx := ⟨Tryz.prog, tab, [3, 4, 5, 6, 7, 8, 9, 10, 11, 12, 13, 14, 15, 16, 17, 18, 19, 20, 21, 22, 23, 24, 25, 26, 27, 28, 29, 30, 31, 32, 33, 34, 35, 36, 37, 38, 39, 40, 41, 42, 43, 44, 45, 46, 47, 48, 49, 50, 51, 52, 53, 54, 55, 56, 57, 58, 59, 60, 61, 62, 63, 64, 65, 66, 67, 68, 69, 70, 71, 72, 73, 74, 75, 76, 77, 78, 79, 80, 81, 82, 83, 84, 85, 86, 87, 88, 89, 90, 91, 92, 93, 94, 95, 96, 97, 98, 99, 100, 101, 102, 103, 104, 105, 106, 107, 108, 109, 110, 111, 112, 113, 114, 115, 116, 117, 118, 119, 120, 121, 122, 123, 124, 125, 126, 127, 128, 129, 130, 131, 132, 133, 134, 135, 136, 137, 138, 139, 140, 141, 142, 143, 144, 145, 146, 147, 148, 149, 150, 151, 152, 153, 154, 155, 156, 157, 158, 159, 160, 161, 162, 163, 164, 165, 166, 167, 168, 169, 170, 171, 172, 173, 174, 175, 176, 177, 178]⟩
set_option maxRecDepth 20000 in
theorem tab_ok : TabOk Tryz.prog tab := ⟨⟨Tryz.isAgg3, Tryz.sizeOf3, ⟨_, Tryz.zeroValue3, rfl⟩, Tryz.underlying3⟩,
  ⟨Tryz.isAgg4, Tryz.sizeOf4, ⟨_, Tryz.zeroValue4, rfl⟩, Tryz.underlying4⟩,
  ⟨Tryz.isAgg5, Tryz.sizeOf5, ⟨_, Tryz.zeroValue5, rfl⟩, Tryz.underlying5⟩,
  ⟨Tryz.isAgg9, Tryz.sizeOf9, ⟨_, Tryz.zeroValue9, rfl⟩, Tryz.underlying9⟩,
  ⟨Tryz.isAgg22, Tryz.sizeOf22, ⟨_, Tryz.zeroValue22, rfl⟩, ⟨Tryz.underlying22, Tryz.sizeOf36⟩⟩,
  ⟨Tryz.isAgg25, Tryz.sizeOf25, ⟨_, Tryz.zeroValue25, rfl⟩, ⟨_, Tryz.underlying25⟩⟩,
  ⟨Tryz.isAgg28, Tryz.sizeOf28, ⟨_, Tryz.zeroValue28, rfl⟩, ⟨Tryz.underlying28, Tryz.sizeOf9⟩⟩,
  ⟨Tryz.isAgg30, Tryz.sizeOf30, ⟨_, Tryz.zeroValue30, rfl⟩, ⟨Tryz.underlying30, Tryz.sizeOf63⟩⟩,
  ⟨Tryz.isAgg31, Tryz.sizeOf31, ⟨_, Tryz.zeroValue31, rfl⟩, ⟨Tryz.underlying31, Tryz.sizeOf33⟩⟩,
  ⟨Tryz.isAgg33, Tryz.sizeOf33, ⟨_, Tryz.zeroValue33, rfl⟩, ⟨_, Tryz.underlying33, ⟨rfl, Tryz.sizeOf5, Tryz.isAgg5, rfl, Tryz.sizeOf3, Tryz.isAgg3, rfl, Tryz.sizeOf9, Tryz.isAgg9, rfl, Tryz.sizeOf30, Tryz.isAgg30, rfl, Tryz.sizeOf31, Tryz.isAgg31, trivial⟩⟩⟩,
  ⟨Tryz.isAgg34, Tryz.sizeOf34, ⟨_, Tryz.zeroValue34, rfl⟩, ⟨Tryz.underlying34, Tryz.sizeOf84⟩⟩,
  ⟨Tryz.isAgg36, Tryz.sizeOf36, ⟨_, Tryz.zeroValue36, rfl⟩, ⟨_, Tryz.underlying36, ⟨rfl, Tryz.sizeOf5, Tryz.isAgg5, rfl, Tryz.sizeOf9, Tryz.isAgg9, rfl, Tryz.sizeOf3, Tryz.isAgg3, rfl, Tryz.sizeOf33, Tryz.isAgg33, rfl, Tryz.sizeOf33, Tryz.isAgg33, rfl, Tryz.sizeOf3, Tryz.isAgg3, rfl, Tryz.sizeOf9, Tryz.isAgg9, rfl, Tryz.sizeOf9, Tryz.isAgg9, rfl, Tryz.sizeOf3, Tryz.isAgg3, rfl, Tryz.sizeOf3, Tryz.isAgg3, rfl, Tryz.sizeOf3, Tryz.isAgg3, rfl, Tryz.sizeOf3, Tryz.isAgg3, rfl, Tryz.sizeOf3, Tryz.isAgg3, rfl, Tryz.sizeOf3, Tryz.isAgg3, rfl, Tryz.sizeOf34, Tryz.isAgg34, rfl, Tryz.sizeOf3, Tryz.isAgg3, rfl, Tryz.sizeOf4, Tryz.isAgg4, trivial⟩⟩⟩,
  ⟨Tryz.isAgg40, Tryz.sizeOf40, ⟨_, Tryz.zeroValue40, rfl⟩, Tryz.underlying40⟩,
  ⟨Tryz.isAgg45, Tryz.sizeOf45, ⟨_, Tryz.zeroValue45, rfl⟩, trivial⟩,
  ⟨Tryz.isAgg46, Tryz.sizeOf46, ⟨_, Tryz.zeroValue46, rfl⟩, ⟨_, Tryz.underlying46⟩⟩,
  ⟨Tryz.isAgg61, Tryz.sizeOf61, ⟨_, Tryz.zeroValue61, rfl⟩, ⟨Tryz.underlying61, Tryz.sizeOf3, Tryz.isAgg3⟩⟩,
  ⟨Tryz.isAgg63, Tryz.sizeOf63, ⟨_, Tryz.zeroValue63, rfl⟩, ⟨_, Tryz.underlying63, ⟨rfl, Tryz.sizeOf3, Tryz.isAgg3, rfl, Tryz.sizeOf61, Tryz.isAgg61, trivial⟩⟩⟩,
  ⟨Tryz.isAgg84, Tryz.sizeOf84, ⟨_, Tryz.zeroValue84, rfl⟩, ⟨_, Tryz.underlying84, ⟨rfl, Tryz.sizeOf9, Tryz.isAgg9, rfl, Tryz.sizeOf3, Tryz.isAgg3, rfl, Tryz.sizeOf33, Tryz.isAgg33, trivial⟩⟩⟩,
  ⟨Tryz.isAgg89, Tryz.sizeOf89, ⟨_, Tryz.zeroValue89, rfl⟩, trivial⟩,
  ⟨Tryz.isAgg91, Tryz.sizeOf91, ⟨_, Tryz.zeroValue91, rfl⟩, ⟨_, Tryz.underlying91, ⟨rfl, Tryz.sizeOf89, Tryz.isAgg89, rfl, Tryz.sizeOf28, Tryz.isAgg28, trivial⟩⟩⟩,
  ⟨Tryz.isAgg95, Tryz.sizeOf95, ⟨_, Tryz.zeroValue95, rfl⟩, trivial⟩,
  ⟨Tryz.isAgg97, Tryz.sizeOf97, ⟨_, Tryz.zeroValue97, rfl⟩, trivial⟩,
  ⟨Tryz.isAgg99, Tryz.sizeOf99, ⟨_, Tryz.zeroValue99, rfl⟩, ⟨_, Tryz.underlying99, ⟨rfl, Tryz.sizeOf25, Tryz.isAgg25, rfl, Tryz.sizeOf4, Tryz.isAgg4, trivial⟩⟩⟩,
  ⟨Tryz.isAgg115, Tryz.sizeOf115, ⟨_, Tryz.zeroValue115, rfl⟩, ⟨_, Tryz.underlying115, ⟨rfl, Tryz.sizeOf36, Tryz.isAgg36, rfl, Tryz.sizeOf33, Tryz.isAgg33, rfl, Tryz.sizeOf31, Tryz.isAgg31, rfl, Tryz.sizeOf3, Tryz.isAgg3, rfl, Tryz.sizeOf3, Tryz.isAgg3, trivial⟩⟩⟩,
  ⟨Tryz.isAgg128, Tryz.sizeOf128, ⟨_, Tryz.zeroValue128, rfl⟩, trivial⟩,
  ⟨Tryz.isAgg129, Tryz.sizeOf129, ⟨_, Tryz.zeroValue129, rfl⟩, trivial⟩,
  ⟨Tryz.isAgg134, Tryz.sizeOf134, ⟨_, Tryz.zeroValue134, rfl⟩, trivial⟩,
  ⟨Tryz.isAgg136, Tryz.sizeOf136, ⟨_, Tryz.zeroValue136, rfl⟩, trivial⟩,
  ⟨Tryz.isAgg138, Tryz.sizeOf138, ⟨_, Tryz.zeroValue138, rfl⟩, ⟨_, Tryz.underlying138, ⟨rfl, Tryz.sizeOf22, Tryz.isAgg22, trivial⟩⟩⟩,
  ⟨Tryz.isAgg146, Tryz.sizeOf146, ⟨_, Tryz.zeroValue146, rfl⟩, Tryz.underlying146⟩,
  ⟨Tryz.isAgg147, Tryz.sizeOf147, ⟨_, Tryz.zeroValue147, rfl⟩, ⟨Tryz.underlying147, Tryz.sizeOf5⟩⟩,
  ⟨Tryz.isAgg149, Tryz.sizeOf149, ⟨_, Tryz.zeroValue149, rfl⟩, ⟨Tryz.underlying149, Tryz.sizeOf3⟩⟩,
  ⟨Tryz.isAgg151, Tryz.sizeOf151, ⟨_, Tryz.zeroValue151, rfl⟩, trivial⟩,
  ⟨Tryz.isAgg152, Tryz.sizeOf152, ⟨_, Tryz.zeroValue152, rfl⟩, trivial⟩,
  ⟨Tryz.isAgg156, Tryz.sizeOf156, ⟨_, Tryz.zeroValue156, rfl⟩, trivial⟩,
  ⟨Tryz.isAgg160, Tryz.sizeOf160, ⟨_, Tryz.zeroValue160, rfl⟩, Tryz.underlying160⟩,
  ⟨Tryz.isAgg168, Tryz.sizeOf168, ⟨_, Tryz.zeroValue168, rfl⟩, Tryz.underlying168⟩,
  ⟨Tryz.isAgg170, Tryz.sizeOf170, ⟨_, Tryz.zeroValue170, rfl⟩, Tryz.underlying170⟩,
  ⟨Tryz.isAgg182, Tryz.sizeOf182, ⟨_, Tryz.zeroValue182, rfl⟩, Tryz.underlying182⟩,
  ⟨Tryz.isAgg186, Tryz.sizeOf186, ⟨_, Tryz.zeroValue186, rfl⟩, ⟨_, Tryz.underlying186⟩⟩, trivial⟩
theorem cx_ok : cx.Ok := ⟨tab_ok, ⟨Tryz.call3, Tryz.call4, Tryz.call5, Tryz.call6, Tryz.call7, Tryz.call8, Tryz.call9, Tryz.call10, Tryz.call11, Tryz.call12, Tryz.call13, Tryz.call14, Tryz.call15, Tryz.call16, Tryz.call17, Tryz.call18, Tryz.call19, Tryz.call20, Tryz.call21, Tryz.call22, Tryz.call23, Tryz.call24, Tryz.call25, Tryz.call26, Tryz.call27, Tryz.call28, Tryz.call29, Tryz.call30, Tryz.call31, Tryz.call32, Tryz.call33, Tryz.call34, Tryz.call35, Tryz.call36, Tryz.call37, Tryz.call38, Tryz.call39, Tryz.call40, Tryz.call41, Tryz.call42, Tryz.call43, Tryz.call44, Tryz.call45, Tryz.call46, Tryz.call47, Tryz.call48, Tryz.call49, Tryz.call50, Tryz.call51, Tryz.call52, Tryz.call53, Tryz.call54, Tryz.call55, Tryz.call56, Tryz.call57, Tryz.call58, Tryz.call59, Tryz.call60, Tryz.call61, Tryz.call62, Tryz.call63, Tryz.call64, Tryz.call65, Tryz.call66, Tryz.call67, Tryz.call68, Tryz.call69, Tryz.call70, Tryz.call71, Tryz.call72, Tryz.call73, Tryz.call74, Tryz.call75, Tryz.call76, Tryz.call77, Tryz.call78, Tryz.call79, Tryz.call80, Tryz.call81, Tryz.call82, Tryz.call83, Tryz.call84, Tryz.call85, Tryz.call86, Tryz.call87, Tryz.call88, Tryz.call89, Tryz.call90, Tryz.call91, Tryz.call92, Tryz.call93, Tryz.call94, Tryz.call95, Tryz.call96, Tryz.call97, Tryz.call98, Tryz.call99, Tryz.call100, Tryz.call101, Tryz.call102, Tryz.call103, Tryz.call104, Tryz.call105, Tryz.call106, Tryz.call107, Tryz.call108, Tryz.call109, Tryz.call110, Tryz.call111, Tryz.call112, Tryz.call113, Tryz.call114, Tryz.call115, Tryz.call116, Tryz.call117, Tryz.call118, Tryz.call119, Tryz.call120, Tryz.call121, Tryz.call122, Tryz.call123, Tryz.call124, Tryz.call125, Tryz.call126, Tryz.call127, Tryz.call128, Tryz.call129, Tryz.call130, Tryz.call131, Tryz.call132, Tryz.call133, Tryz.call134, Tryz.call135, Tryz.call136, Tryz.call137, Tryz.call138, Tryz.call139, Tryz.call140, Tryz.call141, Tryz.call142, Tryz.call143, Tryz.call144, Tryz.call145, Tryz.call146, Tryz.call147, Tryz.call148, Tryz.call149, Tryz.call150, Tryz.call151, Tryz.call152, Tryz.call153, Tryz.call154, Tryz.call155, Tryz.call156, Tryz.call157, Tryz.call158, Tryz.call159, Tryz.call160, Tryz.call161, Tryz.call162, Tryz.call163, Tryz.call164, Tryz.call165, Tryz.call166, Tryz.call167, Tryz.call168, Tryz.call169, Tryz.call170, Tryz.call171, Tryz.call172, Tryz.call173, Tryz.call174, Tryz.call175, Tryz.call176, Tryz.call177, Tryz.call178, trivial⟩, mixed⟩
end Go.Proofs.YtfljbnhhkdaobaaGreat

namespace Go.Proofs.YtfljbnhhkdaobaaGreat
open Go Go.RowKit Go.Shelf Go.Proofs.Bw
attribute [local go_sem] Oper.semAt_some
abbrev PX := Nat × Int
def encP (x : PX) : Array Value := #[.int .i64 x.1, .int .i64 x.2]
def upP (l : L) (k : Nat) : List PX := ((List.range k).filter (fun i => decide (0 ≤ l.p i))).map fun i => (i, l.p i)
theorem upP_yes {l : L} {k : Nat} (h : 0 ≤ l.p k) : upP l (k + 1) = upP l k ++ [(k, l.p k)] := by
  unfold upP; rw [List.range_succ, List.filter_append, List.map_append]; simp [h]
theorem upP_no {l : L} {k : Nat} (h : ¬ 0 ≤ l.p k) : upP l (k + 1) = upP l k := by
  unfold upP; rw [List.range_succ, List.filter_append, List.map_append]; simp [h]
theorem upP_len (l : L) (k : Nat) : (upP l k).length ≤ k := by
  unfold upP; rw [List.length_map]; exact Nat.le_trans (List.length_filter_le _ _) (by simp)
set_option maxHeartbeats 2000000 in
set_option maxRecDepth 100000 in
theorem params1_stops (F : Fence) (n : Nat) (h76 : F.fn 177) (hro : F.round = none) (hn : 1 ≤ n) (B : Nat) (l : L) (w : World) (hb : Box w B l.cells) :
    SeqStopsK F n Tryz.prog 177 #[.pointer (some ⟨B, 0, none⟩)] encP (fun _ _ => True) (fun xs => xs = upP l 4) (fun _ => True) 5 w := by
  intro lp J Jx W hW hJ hJx hY h0
  refine callsIn_of_wp Tryz.func177 rfl h76 ?_ hro
  simp only [Tryz.ntmps177, List.size_toArray, List.length_cons, List.length_nil, Nat.reduceAdd, Nat.reduceSub, Array.replicate_succ, Array.replicate_zero, List.push_toArray, List.append_toArray, List.nil_append, List.cons_append]
  have hbW : Box W B l.cells := ⟨hb.choose, (hW.block B hb.lt).trans hb.choose_spec⟩
  have c1 : W.cell? ⟨B, 1, none⟩ = some (.int .i64 l.p0) := by rw [hbW.cell]; rfl
  have c2 : W.cell? ⟨B, 2, none⟩ = some (.int .i64 l.p1) := by rw [hbW.cell]; rfl
  have c3 : W.cell? ⟨B, 3, none⟩ = some (.int .i64 l.p2) := by rw [hbW.cell]; rfl
  have c4 : W.cell? ⟨B, 4, none⟩ = some (.int .i64 l.p3) := by rw [hbW.cell]; rfl
  have ix0 : ∀ w1 : World, (Instr.index 61 (.agg #[.int .i64 l.p0, .int .i64 l.p1, .int .i64 l.p2, .int .i64 l.p3]) (.int .i64 0)).run Tryz.prog w1 = .ok (.int .i64 l.p0) w1 := by
    intro w1
    simp [Instr.index, asIntOf, run_underlying Tryz.underlying61, Tryz.sizeOf3 w1, part]
  have ix1 : ∀ w1 : World, (Instr.index 61 (.agg #[.int .i64 l.p0, .int .i64 l.p1, .int .i64 l.p2, .int .i64 l.p3]) (.int .i64 1)).run Tryz.prog w1 = .ok (.int .i64 l.p1) w1 := by
    intro w1
    simp [Instr.index, asIntOf, run_underlying Tryz.underlying61, Tryz.sizeOf3 w1, part]
  have ix2 : ∀ w1 : World, (Instr.index 61 (.agg #[.int .i64 l.p0, .int .i64 l.p1, .int .i64 l.p2, .int .i64 l.p3]) (.int .i64 2)).run Tryz.prog w1 = .ok (.int .i64 l.p2) w1 := by
    intro w1
    simp [Instr.index, asIntOf, run_underlying Tryz.underlying61, Tryz.sizeOf3 w1, part]
  have ix3 : ∀ w1 : World, (Instr.index 61 (.agg #[.int .i64 l.p0, .int .i64 l.p1, .int .i64 l.p2, .int .i64 l.p3]) (.int .i64 3)).run Tryz.prog w1 = .ok (.int .i64 l.p3) w1 := by
    intro w1
    simp [Instr.index, asIntOf, run_underlying Tryz.underlying61, Tryz.sizeOf3 w1, part]
  gi_wp2
  gi_loopw [7, 3, 4] (fun i _ _ wr => ∃ k : Nat, k ≤ 4 ∧ i = .int .i64 k ∧ J (upP l k) wr)
    (fun i _ _ _ => 4 - (intOf i).toNat)
  case atStart => exact ⟨0, by omega, rfl, h0⟩
  case round =>
    obtain ⟨k, hk, rfl, hJs⟩ := hrel
    have hk5 : k = 0 ∨ k = 1 ∨ k = 2 ∨ k = 3 ∨ k = 4 := by omega
    rcases hk5 with rfl | rfl | rfl | rfl | rfl
    · by_cases hp : 0 ≤ l.p0
      · obtain ⟨fn, tmps, assign, body, hy, hR⟩ := hY _ (0, l.p0) wr hJs (by have := upP_len l 0; omega)
        have hy' : (Instr.yield lp #[.int .i64 0, .int .i64 l.p0]).run Tryz.prog wr = .ok (.round lp fn tmps assign body) wr := hy
        clear hy
        gi_wp2
        refine hR.mono ?_
        rintro e W3 (⟨rfl, hJ3, hk3⟩ | ⟨rfl, hJx3⟩)
        · gi_wp2
          go_roundw
          case rel => exact ⟨1, by omega, by simp, by rw [upP_yes (k := 0) hp]; exact hJ3⟩
          case measure => simp [intOf]
        · gi_wp2
          refine bodyPost_ret (results_none rfl _ _ _) rfl ?_
          exact ⟨⟨_, rfl⟩, .inr ⟨_, trivial, hJx3⟩⟩
      · gi_wp2
        refine ⟨fun _ h => (by cases h), ?_⟩
        gi_wp2
        go_roundw
        case rel => exact ⟨1, by omega, by simp, by rw [upP_no (k := 0) (by show ¬ 0 ≤ l.p0; omega)]; exact hJs⟩
        case measure => simp [intOf]
    · by_cases hp : 0 ≤ l.p1
      · obtain ⟨fn, tmps, assign, body, hy, hR⟩ := hY _ (1, l.p1) wr hJs (by have := upP_len l 1; omega)
        have hy' : (Instr.yield lp #[.int .i64 1, .int .i64 l.p1]).run Tryz.prog wr = .ok (.round lp fn tmps assign body) wr := hy
        clear hy
        gi_wp2
        refine hR.mono ?_
        rintro e W3 (⟨rfl, hJ3, hk3⟩ | ⟨rfl, hJx3⟩)
        · gi_wp2
          go_roundw
          case rel => exact ⟨2, by omega, by simp, by rw [upP_yes (k := 1) hp]; exact hJ3⟩
          case measure => simp [intOf]
        · gi_wp2
          refine bodyPost_ret (results_none rfl _ _ _) rfl ?_
          exact ⟨⟨_, rfl⟩, .inr ⟨_, trivial, hJx3⟩⟩
      · gi_wp2
        refine ⟨fun _ h => (by cases h), ?_⟩
        gi_wp2
        go_roundw
        case rel => exact ⟨2, by omega, by simp, by rw [upP_no (k := 1) (by show ¬ 0 ≤ l.p1; omega)]; exact hJs⟩
        case measure => simp [intOf]
    · by_cases hp : 0 ≤ l.p2
      · obtain ⟨fn, tmps, assign, body, hy, hR⟩ := hY _ (2, l.p2) wr hJs (by have := upP_len l 2; omega)
        have hy' : (Instr.yield lp #[.int .i64 2, .int .i64 l.p2]).run Tryz.prog wr = .ok (.round lp fn tmps assign body) wr := hy
        clear hy
        gi_wp2
        refine hR.mono ?_
        rintro e W3 (⟨rfl, hJ3, hk3⟩ | ⟨rfl, hJx3⟩)
        · gi_wp2
          go_roundw
          case rel => exact ⟨3, by omega, by simp, by rw [upP_yes (k := 2) hp]; exact hJ3⟩
          case measure => simp [intOf]
        · gi_wp2
          refine bodyPost_ret (results_none rfl _ _ _) rfl ?_
          exact ⟨⟨_, rfl⟩, .inr ⟨_, trivial, hJx3⟩⟩
      · gi_wp2
        refine ⟨fun _ h => (by cases h), ?_⟩
        gi_wp2
        go_roundw
        case rel => exact ⟨3, by omega, by simp, by rw [upP_no (k := 2) (by show ¬ 0 ≤ l.p2; omega)]; exact hJs⟩
        case measure => simp [intOf]
    · by_cases hp : 0 ≤ l.p3
      · obtain ⟨fn, tmps, assign, body, hy, hR⟩ := hY _ (3, l.p3) wr hJs (by have := upP_len l 3; omega)
        have hy' : (Instr.yield lp #[.int .i64 3, .int .i64 l.p3]).run Tryz.prog wr = .ok (.round lp fn tmps assign body) wr := hy
        clear hy
        gi_wp2
        refine hR.mono ?_
        rintro e W3 (⟨rfl, hJ3, hk3⟩ | ⟨rfl, hJx3⟩)
        · gi_wp2
          go_roundw
          case rel => exact ⟨4, by omega, by simp, by rw [upP_yes (k := 3) hp]; exact hJ3⟩
          case measure => simp [intOf]
        · gi_wp2
          refine bodyPost_ret (results_none rfl _ _ _) rfl ?_
          exact ⟨⟨_, rfl⟩, .inr ⟨_, trivial, hJx3⟩⟩
      · gi_wp2
        refine ⟨fun _ h => (by cases h), ?_⟩
        gi_wp2
        go_roundw
        case rel => exact ⟨4, by omega, by simp, by rw [upP_no (k := 3) (by show ¬ 0 ≤ l.p3; omega)]; exact hJs⟩
        case measure => simp [intOf]
    · gi_wp2
      go_end0
      exact ⟨⟨_, rfl⟩, .inl ⟨_, rfl, hJs⟩⟩
theorem params_in (F : Fence) (n : Nat) (h69 : F.fn 163) (hro : F.round = none) (l : L) (w : World) :
    CallsIn F n Tryz.prog 163 #[.agg l.cells.toArray] w fun e w' => e = .returned (.func (.func 177) #[] #[.pointer (some ⟨w.heap.size, 0, none⟩)]) ∧ w' = w.alloc (.cells l.cells.toArray 63) := by
  refine callsIn_of_wp Tryz.func163 rfl h69 ?_ hro
  simp only [L.cells, Tryz.ntmps163, List.size_toArray, List.length_cons, List.length_nil, Nat.reduceAdd, Nat.reduceSub, Array.replicate_succ, Array.replicate_zero, List.push_toArray, List.append_toArray, List.nil_append, List.cons_append]
  gi_wp2
  go_ret
  exact ⟨rfl, rfl⟩
def fc (c : Int) (xs : List PX) : Int := xs.foldl (fun c x => if c ≤ x.2 then 0 else c) c
theorem fc_snoc (c : Int) (xs : List PX) (x : PX) : fc c (xs ++ [x]) = if fc c xs ≤ x.2 then 0 else fc c xs := by
  unfold fc; rw [List.foldl_append]; rfl
theorem fc_up (l : L) : fc l.c (upP l 4) = l.form.c := by
  have step : ∀ k, fc l.c (upP l (k + 1)) = if 0 ≤ l.p k ∧ fc l.c (upP l k) ≤ l.p k then 0 else fc l.c (upP l k) := by
    intro k
    by_cases h : 0 ≤ l.p k
    · rw [upP_yes h, fc_snoc]; simp [h]
    · rw [upP_no h]; simp [h]
  have e0 : fc l.c (upP l 0) = l.c := rfl
  rw [step 3, step 2, step 1, step 0, e0]
  simp only [L.p]
  unfold L.form
  grind
def lc (l : L) (c : Int) : L := ⟨c, l.p0, l.p1, l.p2, l.p3⟩
set_option maxHeartbeats 2000000 in
set_option maxRecDepth 100000 in
theorem form_in (F : Fence) (n : Nat) (h52 : F.fn 176) (h69 : F.fn 163) (h76 : F.fn 177) (hro : F.round = none) (hn : 3 ≤ n) (l : L) (w : World) :
    CallsIn F n Tryz.prog 176 #[.agg l.cells.toArray] w fun e w' => e = .returned (.agg l.form.cells.toArray) ∧ Below w.heap.size w w' := by
  have h1 : 1 ≤ n := by omega
  refine callsIn_of_wp_marks Tryz.func176 rfl h52 ?_ hro
  simp only [L.cells, Tryz.ntmps176, List.size_toArray, List.length_cons, List.length_nil, Nat.reduceAdd, Nat.reduceSub, Array.replicate_succ, Array.replicate_zero, List.push_toArray, List.append_toArray, List.nil_append, List.cons_append]
  gi_wp2_with (gi_at_call 163; refine (params_in F (n - 1) h69 hro l _).mono ?_; rintro e w' ⟨rfl, rfl⟩)
  obtain ⟨W0, hW0⟩ : ∃ W0, ((w.alloc (.cells #[.int .i64 l.c, .int .i64 l.p0, .int .i64 l.p1, .int .i64 l.p2, .int .i64 l.p3] 63)).alloc (.cells #[.int .i64 0, .int .i64 0, .int .i64 0, .int .i64 0, .int .i64 0] 63)).alloc (.cells l.cells.toArray 63) = W0 := ⟨_, rfl⟩
  rw [hW0]
  have hsz : W0.heap.size = w.heap.size + 3 := by rw [← hW0]; simp
  have hx0 : Ext w W0 := by rw [← hW0]; exact ((Ext.alloc _ _).trans (Ext.alloc _ _)).trans (Ext.alloc _ _)
  have b1 : Box W0 w.heap.size l.cells := by
    rw [← hW0]
    exact ((Box.new w 63 l.cells).ext (Ext.alloc _ _)).ext (Ext.alloc _ _)
  have b2 : Box W0 (w.heap.size + 1) [.int .i64 0, .int .i64 0, .int .i64 0, .int .i64 0, .int .i64 0] := by
    rw [← hW0]
    have := Box.new (w.alloc (.cells l.cells.toArray 63)) 63 [.int .i64 0, .int .i64 0, .int .i64 0, .int .i64 0, .int .i64 0]
    rw [World.size_alloc] at this
    exact this.ext (Ext.alloc _ _)
  have b3 : Box W0 (w.heap.size + 1 + 1) l.cells := by
    rw [← hW0]
    have := Box.new ((w.alloc (.cells l.cells.toArray 63)).alloc (.cells [.int .i64 0, .int .i64 0, .int .i64 0, .int .i64 0, .int .i64 0].toArray 63)) 63 l.cells
    rw [World.size_alloc, World.size_alloc] at this
    exact this
  refine wpIn_rangeFunc_ownF hro h1 (gf := 177) (lb := #[.pointer (some ⟨w.heap.size + 1 + 1, 0, none⟩)]) rfl h76 (enters_of Tryz.func177 (by kernel_rfl) rfl)
    (params1_stops F (n - 1) h76 hro (by omega) (w.heap.size + 1 + 1) l W0 b3) (fun _ _ => trivial) (fun _ _ _ _ _ _ _ _ => trivial) (Below.refl _ _) (fun _ => rfl)
    (fun pre W => Box W w.heap.size (lc l (fc l.c pre)).cells ∧ Box W (w.heap.size + 1) [.int .i64 0, .int .i64 0, .int .i64 0, .int .i64 0, .int .i64 0] ∧ Below w.heap.size w W)
    (fun _ _ _ => False) ?hI (fun _ _ _ _ _ hs _ _ => hs) ⟨b1, b2, hx0.below⟩
    (fun x => { tmps := #[.agg l.cells.toArray, .pointer (some ⟨w.heap.size, 0, none⟩), .pointer (some ⟨w.heap.size + 1, 0, none⟩), undef, .int .i64 x.2, .agg l.cells.toArray, .func (.func 177) #[] #[.pointer (some ⟨w.heap.size + 1 + 1, 0, none⟩)], .int .i64 x.1, .int .i64 x.2, undef, undef, undef, undef, undef, undef], defers := [] }) ?assign ?body ?done ?stop
  case hI =>
    rintro pre W W' row ⟨h1, h2, h3⟩ hg hr
    have keep : ∀ b vs, Box W b vs → b < W0.heap.size → Box W' b vs := fun b vs hb hlt => ⟨hb.choose, (hg.block b hb.lt (fun e => by have := (hr b e.symm).1; omega)).trans hb.choose_spec⟩
    exact ⟨keep _ _ h1 (by omega), keep _ _ h2 (by omega), h3.grown hg h3.size (fun k e => by have := (hr k e).1; omega)⟩
  case assign =>
    intro lp x W K hK
    dsimp only [encP]
    gi_wp2
    exact hK
  case body =>
    rintro lp pre x W ⟨h1, h2, h3⟩ _
    have c0 : W.cell? ⟨w.heap.size, 0, none⟩ = some (.int .i64 (fc l.c pre)) := by rw [h1.cell]; rfl
    have f0 := h1.frozen 0
    by_cases hx : fc l.c pre ≤ x.2
    · gi_wp2
      refine ⟨KeepsOthers.setCell _ _ _, trivial, ?_, h2.upd (Upd.setCell W ⟨w.heap.size, 0, none⟩ _) (by show w.heap.size + 1 ≠ w.heap.size; omega), h3.setCell (p := ⟨w.heap.size, 0, none⟩) (Nat.le_refl _) _⟩
      have hb := h1.set 0 (.int .i64 0)
      rw [fc_snoc, if_pos hx]
      exact hb
    · gi_wp2
      refine ⟨KeepsOthers.refl _, trivial, ?_, h2, h3⟩
      rw [fc_snoc, if_neg (by omega)]
      exact h1
  case done =>
    rintro D ys W hD rfl ⟨h1, h2, h3⟩ hK
    rw [fc_up] at h1
    have e : lc l l.form.c = l.form := by unfold lc L.form; split <;> rfl
    rw [e] at h1
    have c0 : W.cell? ⟨w.heap.size, 0, none⟩ = some (.int .i64 l.form.c) := by rw [h1.cell]; rfl
    have c1 : W.cell? ⟨w.heap.size, 1, none⟩ = some (.int .i64 l.form.p0) := by rw [h1.cell]; rfl
    have c2 : W.cell? ⟨w.heap.size, 2, none⟩ = some (.int .i64 l.form.p1) := by rw [h1.cell]; rfl
    have c3 : W.cell? ⟨w.heap.size, 3, none⟩ = some (.int .i64 l.form.p2) := by rw [h1.cell]; rfl
    have c4 : W.cell? ⟨w.heap.size, 4, none⟩ = some (.int .i64 l.form.p3) := by rw [h1.cell]; rfl
    have d0 : W.cell? ⟨w.heap.size + 1, 0, none⟩ = some (.int .i64 0) := by rw [h2.cell]; rfl
    have d1 : W.cell? ⟨w.heap.size + 1, 1, none⟩ = some (.int .i64 0) := by rw [h2.cell]; rfl
    have d2 : W.cell? ⟨w.heap.size + 1, 2, none⟩ = some (.int .i64 0) := by rw [h2.cell]; rfl
    have d3 : W.cell? ⟨w.heap.size + 1, 3, none⟩ = some (.int .i64 0) := by rw [h2.cell]; rfl
    have d4 : W.cell? ⟨w.heap.size + 1, 4, none⟩ = some (.int .i64 0) := by rw [h2.cell]; rfl
    have f0 := h2.frozen 0
    have f1 := h2.frozen 1
    have f2 := h2.frozen 2
    have f3 := h2.frozen 3
    have f4 := h2.frozen 4
    gi_wp2
    have s0 := (((((h2.set 0 (.int .i64 l.form.c)).set 1 (.int .i64 l.form.p0)).set 2 (.int .i64 l.form.p1)).set 3 (.int .i64 l.form.p2)).set 4 (.int .i64 l.form.p3))
    have k0 := ((((KeepsOthers.setCell W ⟨w.heap.size + 1, 0, none⟩ (.int .i64 l.form.c)).trans (KeepsOthers.setCell _ ⟨w.heap.size + 1, 1, none⟩ (.int .i64 l.form.p0))).trans (KeepsOthers.setCell _ ⟨w.heap.size + 1, 2, none⟩ (.int .i64 l.form.p1))).trans (KeepsOthers.setCell _ ⟨w.heap.size + 1, 3, none⟩ (.int .i64 l.form.p2))).trans (KeepsOthers.setCell _ ⟨w.heap.size + 1, 4, none⟩ (.int .i64 l.form.p3))
    have e0 := ((((h3.setCell (p := ⟨w.heap.size + 1, 0, none⟩) (by show w.heap.size ≤ w.heap.size + 1; omega) (.int .i64 l.form.c)).setCell (p := ⟨w.heap.size + 1, 1, none⟩) (by show w.heap.size ≤ w.heap.size + 1; omega) (.int .i64 l.form.p0)).setCell (p := ⟨w.heap.size + 1, 2, none⟩) (by show w.heap.size ≤ w.heap.size + 1; omega) (.int .i64 l.form.p1)).setCell (p := ⟨w.heap.size + 1, 3, none⟩) (by show w.heap.size ≤ w.heap.size + 1; omega) (.int .i64 l.form.p2)).setCell (p := ⟨w.heap.size + 1, 4, none⟩) (by show w.heap.size ≤ w.heap.size + 1; omega) (.int .i64 l.form.p3)
    generalize hW5 : ((((W.setCell ⟨w.heap.size + 1, 0, none⟩ (.int .i64 l.form.c)).setCell ⟨w.heap.size + 1, 1, none⟩ (.int .i64 l.form.p0)).setCell ⟨w.heap.size + 1, 2, none⟩ (.int .i64 l.form.p1)).setCell ⟨w.heap.size + 1, 3, none⟩ (.int .i64 l.form.p2)).setCell ⟨w.heap.size + 1, 4, none⟩ (.int .i64 l.form.p3) = W5 at s0 k0 e0 ⊢
    have hK5 := k0.same D _ hK rfl
    have s5 : Box W5 (w.heap.size + 1) l.form.cells := s0
    refine ⟨by simp, .inl ⟨_, _, rfl, run_takeDeferred hK5, ?_⟩⟩
    have hb6 : Below w.heap.size W5 (W5.putObj D (.deferred none)) := belowK_b (w := w) (Nat.le_refl _) W5 D _ _ (by omega) hK5 rfl rfl
    have s6 : Box (W5.putObj D (.deferred none)) (w.heap.size + 1) l.form.cells := ⟨s5.choose, (World.putObj_heap_other (by omega)).trans s5.choose_spec⟩
    have hres : ∀ tmps : Array Value, tmps[2]? = some (.pointer (some ⟨w.heap.size + 1, 0, none⟩)) → (results Tryz.f176 tmps).run Tryz.prog (W5.putObj D (.deferred none)) = .ok (.agg l.form.cells.toArray) (W5.putObj D (.deferred none)) := by
      intro tmps ht
      refine Res.cellA (P := Tryz.prog) (fn := Tryz.f176) (e := [(2, .pointer (some ⟨w.heap.size + 1, 0, none⟩))]) rfl rfl Tryz.isAgg63 Tryz.sizeOf63 rfl s6 tmps.size ⟨tmps, []⟩ ⟨rfl, rfl, fun t v h => ?_⟩
      rw [look_cons] at h
      by_cases h2 : 2 = t
      · subst h2; rw [if_pos rfl] at h; cases h; exact ht
      · rw [if_neg h2] at h; cases h
    exact ⟨_, hres _ rfl, rfl, e0.trans hb6⟩
  case stop =>
    rintro D c pre W _ _ h _
    exact h.elim
theorem form_runs (l : L) (w0 : World) : Runs Tryz.prog 176 #[.agg l.cells.toArray] w0 fun v w' => v = .agg (L.form l).cells.toArray ∧ Ext w0 w' := by
  have h := callsIn_wide.1 (form_in _ 3 trivial trivial trivial rfl (by omega) l w0)
  refine Calls.mono h ?_
  rintro e w' ⟨rfl, hb⟩
  exact ⟨_, rfl, rfl, Ext.of_below hb⟩
end Go.Proofs.YtfljbnhhkdaobaaGreat

/-
  Names that may be.
-/
namespace Go.Proofs.YtfljbnhhkdaobaaGreat
open Go Go.RowKit Go.Proofs.Bw
set_option linter.unusedVariables false
set_option linter.unusedSimpArgs false
set_option maxRecDepth 20000 in
theorem rname_runs (s : ByteArray) (hsz : s.size ≤ 9223372036854775807) (w0 : World) : Runs Tryz.prog 129 #[.string s] w0 fun v w' => v = .bool (nameB s) ∧ Ext w0 w' := by
  refine Runs.of_vc cx_ok [0, 2, 3, 4, 5, 9, 50] [.v _] Tryz.func129 rfl rfl rfl (Holds.nil _) ?_
  refine vLoop_upd (σ := Nat) [2, 3, 4, 5, 6, 7, 8, 9, 10, 11, 12, 13, 14, 15, 16, 17, 18, 19, 20, 21, 22, 23, 24, 25, 26, 27, 28, 29, 30, 31, 32, 33, 34, 35, 36, 37, 38, 39, 40, 41, 42, 43, 44, 45, 46, 47, 48, 49, 50] (fun q => [(3, .v (.int .i64 q))]) [] (fun _ => []) (fun q w' => Ext w0 w' ∧ q ≤ s.size ∧ nameTo s q = true) (fun q => s.size - q) 0 (fun _ => ⟨rfl, rfl⟩)
    ⟨(by repeat (first | exact trivial | refine And.intro rfl ?_)), (by repeat (first | exact trivial | refine And.intro rfl ?_)), (by repeat (first | exact trivial | refine And.intro rfl ?_)), (by repeat (first | exact trivial | refine And.intro rfl ?_)), Ext.refl _, Nat.zero_le _, rfl⟩ ?_
  rintro q w1 hh ⟨x1, hq, hn⟩
  refine Or.inl (And.intro (fun h => ?_) (fun h => ?_))
  · have hlt := of_decide_eq_true h
    refine vsd (by omega) ?_
    have e : (Int.toNat (q : Int)) = q := Int.toNat_natCast q
    refine Or.inl (And.intro (fun h => ?_) (fun h => ?_))
    · refine And.intro (congrArg Value.bool ?_) x1
      refine (nameB_no s q (by omega) ?_).symm
      rw [e] at h
      simp only [sel, Bool.or_eq_true, Bool.and_eq_true, Bool.not_eq_true', Bool.not_eq_false', decide_eq_true_eq, decide_eq_false_iff_not, Bool.or_eq_false_iff, Bool.and_eq_false_iff, Bool.and_false, Bool.or_false, Bool.and_true, Bool.or_true, Bool.true_and, Bool.false_or, Bool.true_or, Bool.false_and, Bool.false_eq_true, Bool.true_eq_false, or_false, false_or, and_true, true_and, Bool.not_true, Bool.not_false] at h
      exact (letterN_false (by omega)).symm
    · refine vsd (by simp only [inKind]; omega) ?_
      rw [e] at h
      simp only [sel, Bool.or_eq_true, Bool.and_eq_true, Bool.not_eq_true', Bool.not_eq_false', decide_eq_true_eq, decide_eq_false_iff_not, Bool.or_eq_false_iff, Bool.and_eq_false_iff, Bool.and_false, Bool.or_false, Bool.and_true, Bool.or_true, Bool.true_and, Bool.false_or, Bool.true_or, Bool.false_and, Bool.false_eq_true, Bool.true_eq_false, or_false, false_or, and_true, true_and, Bool.not_true, Bool.not_false] at h
      have hl := (letterN_true (c := s[q]!.toNat) (by omega)).symm
      exact Exists.intro ((q + 1)) ⟨by omega, esub_over (by repeat (first | exact trivial | refine And.intro rfl ?_)) (by repeat (first | exact trivial | refine And.intro rfl ?_)), hsub_over (by repeat (first | exact trivial | refine And.intro rfl ?_)) (by repeat (first | exact trivial | refine And.intro rfl ?_)), x1, by omega, by rw [nameTo_succ s q (by omega), hn, hl]; rfl⟩
  · have hge := of_decide_eq_false h
    have hqs : q = s.size := by omega
    subst hqs
    refine And.intro (congrArg Value.bool ?_) x1
    rw [← nameTo_size, hn, Bool.true_and, Bool.eq_iff_iff]
    simp only [sel, Bool.or_eq_true, Bool.and_eq_true, Bool.not_eq_true', Bool.not_eq_false', decide_eq_true_eq, decide_eq_false_iff_not, Bool.or_eq_false_iff, Bool.and_eq_false_iff, Bool.and_false, Bool.or_false, Bool.and_true, Bool.or_true, Bool.true_and, Bool.false_or, Bool.true_or, Bool.false_and, Bool.false_eq_true, Bool.true_eq_false, or_false, false_or, and_true, true_and, Bool.not_true, Bool.not_false]
    omega
set_option maxRecDepth 20000 in
theorem tname_runs (s : ByteArray) (hsz : s.size ≤ 9223372036854775807) (w0 : World) : Runs Tryz.prog 90 #[.string s] w0 fun v w' => v = .bool (nameB s) ∧ Ext w0 w' := by
  refine Runs.of_vc cx_ok [0, 2, 4, 6, 7, 8, 9, 12, 25] [.v _] Tryz.func90 rfl rfl rfl (Holds.nil _) ?_
  refine OpT.strBytes Tryz.underlying9 Tryz.underlying147 Tryz.underlying5 rfl hsz fun w1 b c eb x1 z1 hS hc hc2 => ?_
  refine Lands.v ((Holds.nil w0).ext x1) ?_
  refine vLoop_upd (σ := Nat) [2, 4, 8, 9, 10, 11, 12, 13, 14, 15, 16, 17, 18, 19, 20, 21, 22, 23, 24, 25, 26, 27, 28, 29, 30, 31, 32, 33, 34, 35, 36, 37, 38] (fun q => [(8, .v (.int .i64 q))]) [] (fun _ => []) (fun q w' => Ext w1 w' ∧ q ≤ s.size ∧ nameTo s q = true) (fun q => s.size - q) 0 (fun _ => ⟨rfl, rfl⟩)
    ⟨(by repeat (first | exact trivial | refine And.intro rfl ?_)), (by repeat (first | exact trivial | refine And.intro rfl ?_)), (by repeat (first | exact trivial | refine And.intro rfl ?_)), (by repeat (first | exact trivial | refine And.intro rfl ?_)), Ext.refl _, Nat.zero_le _, rfl⟩ ?_
  rintro q w2 hh ⟨x2, hq, hn⟩
  refine Or.inl (And.intro (fun h => ?_) (fun h => ?_))
  · have hlt := of_decide_eq_true h
    obtain ⟨a, ha, hcell⟩ := (hS.ext x2) q (by omega)
    refine OpT.indexAddr Tryz.underlying147 Tryz.sizeOf5 rfl rfl ha (by first | omega | (simp only [lenOk] at *; omega)) ?_; refine Lands.v hh ?_
    refine OpT.load Tryz.isAgg5 rfl hcell ?_
    refine Lands.v hh ?_
    refine Or.inl (And.intro (fun h => ?_) (fun h => ?_))
    · refine vsd (by simp only [inKind]; omega) ?_
      simp only [sel, Bool.or_eq_true, Bool.and_eq_true, Bool.not_eq_true', Bool.not_eq_false', decide_eq_true_eq, decide_eq_false_iff_not, Bool.or_eq_false_iff, Bool.and_eq_false_iff, Bool.and_false, Bool.or_false, Bool.and_true, Bool.or_true, Bool.true_and, Bool.false_or, Bool.true_or, Bool.false_and, Bool.false_eq_true, Bool.true_eq_false, or_false, false_or, and_true, true_and, Bool.not_true, Bool.not_false] at h
      have hl := (letterN_true (c := s[q]!.toNat) (by omega)).symm
      exact Exists.intro ((q + 1)) ⟨by omega, esub_over (by repeat (first | exact trivial | refine And.intro rfl ?_)) (by repeat (first | exact trivial | refine And.intro rfl ?_)), hsub_over (by repeat (first | exact trivial | refine And.intro rfl ?_)) (by repeat (first | exact trivial | refine And.intro rfl ?_)), x2, by omega, by rw [nameTo_succ s q (by omega), hn, hl]; rfl⟩
    · have h1 := h
      simp only [sel, Bool.or_eq_true, Bool.and_eq_true, Bool.not_eq_true', Bool.not_eq_false', decide_eq_true_eq, decide_eq_false_iff_not, Bool.or_eq_false_iff, Bool.and_eq_false_iff, Bool.and_false, Bool.or_false, Bool.and_true, Bool.or_true, Bool.true_and, Bool.false_or, Bool.true_or, Bool.false_and, Bool.false_eq_true, Bool.true_eq_false, or_false, false_or, and_true, true_and, Bool.not_true, Bool.not_false] at h1
      refine Or.inl (And.intro (fun h => ?_) (fun h => ?_))
      · refine vsd (by simp only [inKind]; omega) ?_
        simp only [sel, Bool.or_eq_true, Bool.and_eq_true, Bool.not_eq_true', Bool.not_eq_false', decide_eq_true_eq, decide_eq_false_iff_not, Bool.or_eq_false_iff, Bool.and_eq_false_iff, Bool.and_false, Bool.or_false, Bool.and_true, Bool.or_true, Bool.true_and, Bool.false_or, Bool.true_or, Bool.false_and, Bool.false_eq_true, Bool.true_eq_false, or_false, false_or, and_true, true_and, Bool.not_true, Bool.not_false] at h
        have hl := (letterN_true (c := s[q]!.toNat) (by omega)).symm
        exact Exists.intro ((q + 1)) ⟨by omega, esub_over (by repeat (first | exact trivial | refine And.intro rfl ?_)) (by repeat (first | exact trivial | refine And.intro rfl ?_)), hsub_over (by repeat (first | exact trivial | refine And.intro rfl ?_)) (by repeat (first | exact trivial | refine And.intro rfl ?_)), x2, by omega, by rw [nameTo_succ s q (by omega), hn, hl]; rfl⟩
      · simp only [sel, Bool.or_eq_true, Bool.and_eq_true, Bool.not_eq_true', Bool.not_eq_false', decide_eq_true_eq, decide_eq_false_iff_not, Bool.or_eq_false_iff, Bool.and_eq_false_iff, Bool.and_false, Bool.or_false, Bool.and_true, Bool.or_true, Bool.true_and, Bool.false_or, Bool.true_or, Bool.false_and, Bool.false_eq_true, Bool.true_eq_false, or_false, false_or, and_true, true_and, Bool.not_true, Bool.not_false] at h
        refine And.intro (congrArg Value.bool ?_) (x1.trans x2)
        exact (nameB_no s q (by omega) (letterN_false (by omega)).symm).symm
  · have hge := of_decide_eq_false h
    have hqs : q = s.size := by omega
    subst hqs
    refine And.intro (congrArg Value.bool ?_) (x1.trans x2)
    rw [← nameTo_size, hn, Bool.true_and, Bool.eq_iff_iff]
    simp only [sel, Bool.or_eq_true, Bool.and_eq_true, Bool.not_eq_true', Bool.not_eq_false', decide_eq_true_eq, decide_eq_false_iff_not, Bool.or_eq_false_iff, Bool.and_eq_false_iff, Bool.and_false, Bool.or_false, Bool.and_true, Bool.or_true, Bool.true_and, Bool.false_or, Bool.true_or, Bool.false_and, Bool.false_eq_true, Bool.true_eq_false, or_false, false_or, and_true, true_and, Bool.not_true, Bool.not_false, bytes_nil]
    omega
set_option maxRecDepth 20000 in
theorem rmay_runs (l : L) (w0 : World) : Runs Tryz.prog 136 #[.agg l.cells.toArray] w0 fun v w' => v = .bool l.may ∧ Ext w0 w' := by
  refine Runs.of_vc (ρ := []) cx_ok [0, 1, 2, 3, 11, 13, 48] [.a [.v (.int .i64 l.c), .v (.int .i64 l.p0), .v (.int .i64 l.p1), .v (.int .i64 l.p2), .v (.int .i64 l.p3)]] Tryz.func136 rfl rfl rfl (Holds.nil w0) ?_
  intro g1 w1 e1 x1 z1 hh1
  refine Or.inl (And.intro (fun h => ?_) (fun h => ?_))
  · refine And.intro (congrArg Value.bool ?_) x1
    simp only [sel, Bool.or_eq_true, Bool.and_eq_true, Bool.not_eq_true', Bool.not_eq_false', decide_eq_true_eq, decide_eq_false_iff_not, Bool.or_eq_false_iff, Bool.and_eq_false_iff, Bool.and_false, Bool.or_false, Bool.and_true, Bool.or_true, Bool.true_and, Bool.false_or, Bool.true_or, Bool.false_and, Bool.false_eq_true, Bool.true_eq_false, or_false, false_or, and_true, true_and, Bool.not_true, Bool.not_false] at h
    exact (L.may_no (by omega)).symm
  have hc : 0 ≤ l.c ∧ l.c ≤ 1099511627776 := by simp only [sel, Bool.or_eq_true, Bool.and_eq_true, Bool.not_eq_true', Bool.not_eq_false', decide_eq_true_eq, decide_eq_false_iff_not, Bool.or_eq_false_iff, Bool.and_eq_false_iff, Bool.and_false, Bool.or_false, Bool.and_true, Bool.or_true, Bool.true_and, Bool.false_or, Bool.true_or, Bool.false_and, Bool.false_eq_true, Bool.true_eq_false, or_false, false_or, and_true, true_and, Bool.not_true, Bool.not_false] at h; omega
  refine vLoop_upd (σ := Nat) [2, 3, 12, 13, 14, 15, 16, 17, 18, 19, 20, 21, 22, 23, 24, 25, 26, 27, 28, 29, 30, 31, 32, 33, 34, 35, 36, 37, 38, 39, 40, 41, 42, 43, 44, 45, 46, 47, 48] (fun q => [(3, .v (.int .i64 q))]) [] (fun _ => []) (fun q w' => Ext w0 w' ∧ q ≤ 4 ∧ ∀ i, i < q → l.okAt i = true) (fun q => 4 - q) 0 (fun _ => ⟨rfl, rfl⟩)
    ⟨(by repeat (first | exact trivial | refine And.intro rfl ?_)), (by repeat (first | exact trivial | refine And.intro rfl ?_)), (by repeat (first | exact trivial | refine And.intro rfl ?_)), (by repeat (first | exact trivial | refine And.intro rfl ?_)), x1, Nat.zero_le _, fun i hi => by omega⟩ ?_
  rintro q w2 hh2 ⟨x2, hq, hok⟩
  refine Or.inl (And.intro (fun h => ?_) (fun h => ?_))
  · have hlt : q < 4 := by have := of_decide_eq_true h; omega
    have hend : ∀ b : Bool, b = !l.okAt q → (b = true → false = l.may) ∧ (b = false → l.okAt q = true) := fun b hb => ⟨fun hb1 => (L.may_noAt hlt (by rw [hb1] at hb; simpa using hb.symm)).symm, fun hb1 => by rw [hb1] at hb; simpa using hb.symm⟩
    have h4 : q = 0 ∨ q = 1 ∨ q = 2 ∨ q = 3 := by omega
    refine vDrw_mk [] (.one 0 (.one 1 (.one 2 (.one 3 (.one 4 (.one 5 (.one 6 (.one 7 (.one 8 (.one 9 (.one 10 (.one 11 (.one 12 (.one 13 (.one 14 (.one 15 (.one 16 (.one 17 (.one 18 (.one 19 (.one 20 (.one 21 (.one 22 (.one 23 (.one 24 (.one 25 (.one 26 (.one 27 (.one 28 (.one 29 (.one 30 (.one 31 (.one 32 .nil))))))))))))))))))))))))))))))))) rfl fun w3 x3 hh3 => ?_
    rcases h4 with rfl | rfl | rfl | rfl
    · refine Exists.intro (.p 0 1) (And.intro rfl (And.intro (fun w' xx hh => OpT.indexAddrArr Tryz.underlying61 Tryz.sizeOf3 rfl rfl (by simp) ⟨rfl, rfl⟩) ?_))
      refine Exists.intro (.p 0 1) (And.intro rfl (And.intro (fun w' xx hh _ => OpT.indexAddrArr Tryz.underlying61 Tryz.sizeOf3 rfl rfl (by simp) ⟨rfl, rfl⟩) ?_))
      refine Exists.intro (.p 0 1) (And.intro rfl (And.intro (fun w' xx hh _ => OpT.indexAddrArr Tryz.underlying61 Tryz.sizeOf3 rfl rfl (by simp) ⟨rfl, rfl⟩) ?_))
      refine Exists.intro (.p 0 1) (And.intro rfl (And.intro (fun w' xx hh _ _ => OpT.indexAddrArr Tryz.underlying61 Tryz.sizeOf3 rfl rfl (by simp) ⟨rfl, rfl⟩) ?_))
      refine Or.inl (And.intro (fun h => ?_) (fun h => ?_))
      · refine ⟨congrArg Value.bool ((hend _ ?_).1 h), x2.trans x3⟩
        rw [Bool.eq_iff_iff]; simp only [sel, Bool.or_eq_true, Bool.and_eq_true, Bool.not_eq_true', Bool.not_eq_false', decide_eq_true_eq, decide_eq_false_iff_not, Bool.or_eq_false_iff, Bool.and_eq_false_iff, Bool.and_false, Bool.or_false, Bool.and_true, Bool.or_true, Bool.true_and, Bool.false_or, Bool.true_or, Bool.false_and, Bool.false_eq_true, Bool.true_eq_false, or_false, false_or, and_true, true_and, Bool.not_true, Bool.not_false, L.okAt, L.p]; omega
      · have hq1 := (hend _ (by rw [Bool.eq_iff_iff]; simp only [sel, Bool.or_eq_true, Bool.and_eq_true, Bool.not_eq_true', Bool.not_eq_false', decide_eq_true_eq, decide_eq_false_iff_not, Bool.or_eq_false_iff, Bool.and_eq_false_iff, Bool.and_false, Bool.or_false, Bool.and_true, Bool.or_true, Bool.true_and, Bool.false_or, Bool.true_or, Bool.false_and, Bool.false_eq_true, Bool.true_eq_false, or_false, false_or, and_true, true_and, Bool.not_true, Bool.not_false, L.okAt, L.p]; omega)).2 h
        have hok1 : ∀ i, i < 0 + 1 → l.okAt i = true := fun i hi => by
          by_cases hiq : i = 0
          · subst hiq; exact hq1
          · exact hok i (by omega)
        refine vsd (by simp only [inKind]; omega) ?_
        exact Exists.intro ((0 + 1)) ⟨by omega, esub_over (by repeat (first | exact trivial | refine And.intro rfl ?_)) (by repeat (first | exact trivial | refine And.intro rfl ?_)), hsub_over (by repeat (first | exact trivial | refine And.intro rfl ?_)) (by repeat (first | exact trivial | refine And.intro rfl ?_)), x2.trans x3, by omega, hok1⟩
    · refine Exists.intro (.p 0 2) (And.intro rfl (And.intro (fun w' xx hh => OpT.indexAddrArr Tryz.underlying61 Tryz.sizeOf3 rfl rfl (by simp) ⟨rfl, rfl⟩) ?_))
      refine Exists.intro (.p 0 2) (And.intro rfl (And.intro (fun w' xx hh _ => OpT.indexAddrArr Tryz.underlying61 Tryz.sizeOf3 rfl rfl (by simp) ⟨rfl, rfl⟩) ?_))
      refine Exists.intro (.p 0 2) (And.intro rfl (And.intro (fun w' xx hh _ => OpT.indexAddrArr Tryz.underlying61 Tryz.sizeOf3 rfl rfl (by simp) ⟨rfl, rfl⟩) ?_))
      refine Exists.intro (.p 0 2) (And.intro rfl (And.intro (fun w' xx hh _ _ => OpT.indexAddrArr Tryz.underlying61 Tryz.sizeOf3 rfl rfl (by simp) ⟨rfl, rfl⟩) ?_))
      refine Or.inl (And.intro (fun h => ?_) (fun h => ?_))
      · refine ⟨congrArg Value.bool ((hend _ ?_).1 h), x2.trans x3⟩
        rw [Bool.eq_iff_iff]; simp only [sel, Bool.or_eq_true, Bool.and_eq_true, Bool.not_eq_true', Bool.not_eq_false', decide_eq_true_eq, decide_eq_false_iff_not, Bool.or_eq_false_iff, Bool.and_eq_false_iff, Bool.and_false, Bool.or_false, Bool.and_true, Bool.or_true, Bool.true_and, Bool.false_or, Bool.true_or, Bool.false_and, Bool.false_eq_true, Bool.true_eq_false, or_false, false_or, and_true, true_and, Bool.not_true, Bool.not_false, L.okAt, L.p]; omega
      · have hq1 := (hend _ (by rw [Bool.eq_iff_iff]; simp only [sel, Bool.or_eq_true, Bool.and_eq_true, Bool.not_eq_true', Bool.not_eq_false', decide_eq_true_eq, decide_eq_false_iff_not, Bool.or_eq_false_iff, Bool.and_eq_false_iff, Bool.and_false, Bool.or_false, Bool.and_true, Bool.or_true, Bool.true_and, Bool.false_or, Bool.true_or, Bool.false_and, Bool.false_eq_true, Bool.true_eq_false, or_false, false_or, and_true, true_and, Bool.not_true, Bool.not_false, L.okAt, L.p]; omega)).2 h
        have hok1 : ∀ i, i < 1 + 1 → l.okAt i = true := fun i hi => by
          by_cases hiq : i = 1
          · subst hiq; exact hq1
          · exact hok i (by omega)
        refine vsd (by simp only [inKind]; omega) ?_
        exact Exists.intro ((1 + 1)) ⟨by omega, esub_over (by repeat (first | exact trivial | refine And.intro rfl ?_)) (by repeat (first | exact trivial | refine And.intro rfl ?_)), hsub_over (by repeat (first | exact trivial | refine And.intro rfl ?_)) (by repeat (first | exact trivial | refine And.intro rfl ?_)), x2.trans x3, by omega, hok1⟩
    · refine Exists.intro (.p 0 3) (And.intro rfl (And.intro (fun w' xx hh => OpT.indexAddrArr Tryz.underlying61 Tryz.sizeOf3 rfl rfl (by simp) ⟨rfl, rfl⟩) ?_))
      refine Exists.intro (.p 0 3) (And.intro rfl (And.intro (fun w' xx hh _ => OpT.indexAddrArr Tryz.underlying61 Tryz.sizeOf3 rfl rfl (by simp) ⟨rfl, rfl⟩) ?_))
      refine Exists.intro (.p 0 3) (And.intro rfl (And.intro (fun w' xx hh _ => OpT.indexAddrArr Tryz.underlying61 Tryz.sizeOf3 rfl rfl (by simp) ⟨rfl, rfl⟩) ?_))
      refine Exists.intro (.p 0 3) (And.intro rfl (And.intro (fun w' xx hh _ _ => OpT.indexAddrArr Tryz.underlying61 Tryz.sizeOf3 rfl rfl (by simp) ⟨rfl, rfl⟩) ?_))
      refine Or.inl (And.intro (fun h => ?_) (fun h => ?_))
      · refine ⟨congrArg Value.bool ((hend _ ?_).1 h), x2.trans x3⟩
        rw [Bool.eq_iff_iff]; simp only [sel, Bool.or_eq_true, Bool.and_eq_true, Bool.not_eq_true', Bool.not_eq_false', decide_eq_true_eq, decide_eq_false_iff_not, Bool.or_eq_false_iff, Bool.and_eq_false_iff, Bool.and_false, Bool.or_false, Bool.and_true, Bool.or_true, Bool.true_and, Bool.false_or, Bool.true_or, Bool.false_and, Bool.false_eq_true, Bool.true_eq_false, or_false, false_or, and_true, true_and, Bool.not_true, Bool.not_false, L.okAt, L.p]; omega
      · have hq1 := (hend _ (by rw [Bool.eq_iff_iff]; simp only [sel, Bool.or_eq_true, Bool.and_eq_true, Bool.not_eq_true', Bool.not_eq_false', decide_eq_true_eq, decide_eq_false_iff_not, Bool.or_eq_false_iff, Bool.and_eq_false_iff, Bool.and_false, Bool.or_false, Bool.and_true, Bool.or_true, Bool.true_and, Bool.false_or, Bool.true_or, Bool.false_and, Bool.false_eq_true, Bool.true_eq_false, or_false, false_or, and_true, true_and, Bool.not_true, Bool.not_false, L.okAt, L.p]; omega)).2 h
        have hok1 : ∀ i, i < 2 + 1 → l.okAt i = true := fun i hi => by
          by_cases hiq : i = 2
          · subst hiq; exact hq1
          · exact hok i (by omega)
        refine vsd (by simp only [inKind]; omega) ?_
        exact Exists.intro ((2 + 1)) ⟨by omega, esub_over (by repeat (first | exact trivial | refine And.intro rfl ?_)) (by repeat (first | exact trivial | refine And.intro rfl ?_)), hsub_over (by repeat (first | exact trivial | refine And.intro rfl ?_)) (by repeat (first | exact trivial | refine And.intro rfl ?_)), x2.trans x3, by omega, hok1⟩
    · refine Exists.intro (.p 0 4) (And.intro rfl (And.intro (fun w' xx hh => OpT.indexAddrArr Tryz.underlying61 Tryz.sizeOf3 rfl rfl (by simp) ⟨rfl, rfl⟩) ?_))
      refine Exists.intro (.p 0 4) (And.intro rfl (And.intro (fun w' xx hh _ => OpT.indexAddrArr Tryz.underlying61 Tryz.sizeOf3 rfl rfl (by simp) ⟨rfl, rfl⟩) ?_))
      refine Exists.intro (.p 0 4) (And.intro rfl (And.intro (fun w' xx hh _ => OpT.indexAddrArr Tryz.underlying61 Tryz.sizeOf3 rfl rfl (by simp) ⟨rfl, rfl⟩) ?_))
      refine Exists.intro (.p 0 4) (And.intro rfl (And.intro (fun w' xx hh _ _ => OpT.indexAddrArr Tryz.underlying61 Tryz.sizeOf3 rfl rfl (by simp) ⟨rfl, rfl⟩) ?_))
      refine Or.inl (And.intro (fun h => ?_) (fun h => ?_))
      · refine ⟨congrArg Value.bool ((hend _ ?_).1 h), x2.trans x3⟩
        rw [Bool.eq_iff_iff]; simp only [sel, Bool.or_eq_true, Bool.and_eq_true, Bool.not_eq_true', Bool.not_eq_false', decide_eq_true_eq, decide_eq_false_iff_not, Bool.or_eq_false_iff, Bool.and_eq_false_iff, Bool.and_false, Bool.or_false, Bool.and_true, Bool.or_true, Bool.true_and, Bool.false_or, Bool.true_or, Bool.false_and, Bool.false_eq_true, Bool.true_eq_false, or_false, false_or, and_true, true_and, Bool.not_true, Bool.not_false, L.okAt, L.p]; omega
      · have hq1 := (hend _ (by rw [Bool.eq_iff_iff]; simp only [sel, Bool.or_eq_true, Bool.and_eq_true, Bool.not_eq_true', Bool.not_eq_false', decide_eq_true_eq, decide_eq_false_iff_not, Bool.or_eq_false_iff, Bool.and_eq_false_iff, Bool.and_false, Bool.or_false, Bool.and_true, Bool.or_true, Bool.true_and, Bool.false_or, Bool.true_or, Bool.false_and, Bool.false_eq_true, Bool.true_eq_false, or_false, false_or, and_true, true_and, Bool.not_true, Bool.not_false, L.okAt, L.p]; omega)).2 h
        have hok1 : ∀ i, i < 3 + 1 → l.okAt i = true := fun i hi => by
          by_cases hiq : i = 3
          · subst hiq; exact hq1
          · exact hok i (by omega)
        refine vsd (by simp only [inKind]; omega) ?_
        exact Exists.intro ((3 + 1)) ⟨by omega, esub_over (by repeat (first | exact trivial | refine And.intro rfl ?_)) (by repeat (first | exact trivial | refine And.intro rfl ?_)), hsub_over (by repeat (first | exact trivial | refine And.intro rfl ?_)) (by repeat (first | exact trivial | refine And.intro rfl ?_)), x2.trans x3, by omega, hok1⟩
  · have hge := of_decide_eq_false h
    exact ⟨congrArg Value.bool (L.may_yes hc fun i hi => hok i (by omega)).symm, x2⟩
theorem rkids_runs (k : Int) (w0 : World) : Runs Tryz.prog 135 #[.int .u8 k] w0 fun v w' => v = .int .i64 (kidsI k) ∧ Ext w0 w' := by
  refine Runs.of_vc cx_ok [0, 2, 3, 4, 8, 12, 14] [.v _] Tryz.func135 rfl rfl rfl (Holds.nil _) ?_
  repeat' (first | refine Or.inl (And.intro (fun h => ?_) (fun h => ?_)) | fail)
  all_goals refine And.intro (congrArg (Value.int .i64) ?_) (Ext.refl _)
  all_goals
    simp only [sel, Bool.or_eq_true, Bool.and_eq_true, Bool.not_eq_true', Bool.not_eq_false', decide_eq_true_eq, decide_eq_false_iff_not, Bool.or_eq_false_iff, Bool.and_eq_false_iff, Bool.and_false, Bool.or_false, Bool.and_true, Bool.or_true, Bool.true_and, Bool.false_or, Bool.true_or, Bool.false_and, Bool.false_eq_true, Bool.true_eq_false, or_false, false_or, and_true, true_and, Bool.not_true, Bool.not_false] at *
    unfold kidsI
    repeat' split
    all_goals omega
end Go.Proofs.YtfljbnhhkdaobaaGreat

/-
  What functions of the program compute, step by step (printed by a program of this work), part 1.
-/
namespace Go.Proofs.YtfljbnhhkdaobaaGreat
open Go Go.RowKit Go.Proofs.Bw
set_option linter.unusedVariables false
set_option linter.unusedSimpArgs false
set_option maxHeartbeats 1000000 in
set_option maxRecDepth 20000 in
theorem kids_runs (k : Int) (w0 : World) : Runs Tryz.prog 158 #[.int .u8 k] w0 fun v w' => v = .tuple #[.int .i64 (if kidsI k < 0 then 0 else kidsI k), .bool (decide (0 ≤ kidsI k))] ∧ Ext w0 w' := by
  refine Runs.of_W (vs := [_]) Tryz.func158 rfl rfl ?_
  refine W.seqK fun K1 hK1 => ?_
  refine W.region ?_
  refine Rg.od rfl rfl rfl (OpT.assign rfl ?_)
  refine Rg.od rfl rfl rfl (OpT.assign rfl ?_)
  refine Rg.nil ?_
  refine hK1 _ _ ?_
  refine W.seqK fun K2 hK2 => ?_
  refine W.seqK fun K3 hK3 => ?_
  refine W.region ?_
  refine Rg.od rfl rfl rfl (OpT.move rfl ?_)
  refine Rg.nil ?_
  refine hK3 _ _ ?_
  refine W.block ?_
  refine W.seqK fun K4 hK4 => ?_
  refine W.block ?_
  refine W.seqK fun K5 hK5 => ?_
  refine W.block ?_
  refine W.seqK fun K6 hK6 => ?_
  refine W.block ?_
  refine W.seqK fun K7 hK7 => ?_
  refine W.block ?_
  refine W.seqK fun K8 hK8 => ?_
  refine W.seqK fun K9 hK9 => ?_
  refine W.seqK fun K10 hK10 => ?_
  refine W.region ?_
  refine Rg.od rfl rfl rfl (OpT.eqlI rfl rfl ?_)
  refine Rg.od rfl rfl rfl (OpT.assign rfl ?_)
  refine Rg.nil ?_
  refine hK10 _ _ ?_
  rcases Bool.eq_false_or_eq_true (decide (k = 7)) with hb11 | hb11
  · have hp11 := of_decide_eq_true hb11
    refine W.condTb rfl hb11 ?_
    refine W.exit ?_
    refine hK7 _ _ ?_
    refine W.region ?_
    refine Rg.od rfl rfl rfl (OpT.move rfl ?_)
    refine Rg.od rfl rfl rfl (OpT.add rfl rfl (by omega) ?_)
    refine Rg.od rfl rfl rfl (OpT.assign rfl ?_)
    refine Rg.nil ?_
    refine hK6 _ _ ?_
    refine W.region ?_
    refine Rg.od rfl rfl rfl (OpT.move rfl ?_)
    refine Rg.od rfl rfl rfl (OpT.add rfl rfl (by omega) ?_)
    refine Rg.od rfl rfl rfl (OpT.assign rfl ?_)
    refine Rg.nil ?_
    refine hK5 _ _ ?_
    refine W.region ?_
    refine Rg.od rfl rfl rfl (OpT.move rfl ?_)
    refine Rg.od rfl rfl rfl (OpT.add rfl rfl (by omega) ?_)
    refine Rg.od rfl rfl rfl (OpT.assign rfl ?_)
    refine Rg.nil ?_
    refine hK4 _ _ ?_
    refine W.seqK fun K12 hK12 => ?_
    refine W.seqK fun K13 hK13 => ?_
    refine W.region ?_
    refine Rg.od rfl rfl rfl (OpT.move rfl ?_)
    refine Rg.od rfl rfl rfl (OpT.assign rfl ?_)
    refine Rg.od rfl rfl rfl (OpT.assign rfl ?_)
    refine Rg.nil ?_
    refine hK13 _ _ ?_
    refine W.ret ?_
    refine ⟨_, Res.two rfl rfl rfl, ?_⟩
    refine ⟨congrArg Value.tuple (congrArg List.toArray ?_), (Ext.refl _)⟩
    simp only [List.cons.injEq, Value.int.injEq, Value.bool.injEq, true_and, and_true]
    unfold kidsI at *
    (repeat' split) <;> (first | omega | simp_all | (constructor <;> first | omega | (simp; omega)))
  · have hp11 := of_decide_eq_false hb11
    refine W.condFb rfl hb11 ?_
    refine W.skip ?_
    refine hK9 _ _ ?_
    refine W.seqK fun K14 hK14 => ?_
    refine W.seqK fun K15 hK15 => ?_
    refine W.seqK fun K16 hK16 => ?_
    refine W.region ?_
    refine Rg.od rfl rfl rfl (OpT.eqlI rfl rfl ?_)
    refine Rg.od rfl rfl rfl (OpT.assign rfl ?_)
    refine Rg.nil ?_
    refine hK16 _ _ ?_
    rcases Bool.eq_false_or_eq_true (decide (k = 4)) with hb17 | hb17
    · have hp17 := of_decide_eq_true hb17
      refine W.condTb rfl hb17 ?_
      refine W.skip ?_
      refine hK15 _ _ ?_
      refine W.condTb rfl hb17 ?_
      refine W.exit ?_
      refine hK6 _ _ ?_
      refine W.region ?_
      refine Rg.od rfl rfl rfl (OpT.move rfl ?_)
      refine Rg.od rfl rfl rfl (OpT.add rfl rfl (by omega) ?_)
      refine Rg.od rfl rfl rfl (OpT.assign rfl ?_)
      refine Rg.nil ?_
      refine hK5 _ _ ?_
      refine W.region ?_
      refine Rg.od rfl rfl rfl (OpT.move rfl ?_)
      refine Rg.od rfl rfl rfl (OpT.add rfl rfl (by omega) ?_)
      refine Rg.od rfl rfl rfl (OpT.assign rfl ?_)
      refine Rg.nil ?_
      refine hK4 _ _ ?_
      refine W.seqK fun K18 hK18 => ?_
      refine W.seqK fun K19 hK19 => ?_
      refine W.region ?_
      refine Rg.od rfl rfl rfl (OpT.move rfl ?_)
      refine Rg.od rfl rfl rfl (OpT.assign rfl ?_)
      refine Rg.od rfl rfl rfl (OpT.assign rfl ?_)
      refine Rg.nil ?_
      refine hK19 _ _ ?_
      refine W.ret ?_
      refine ⟨_, Res.two rfl rfl rfl, ?_⟩
      refine ⟨congrArg Value.tuple (congrArg List.toArray ?_), (Ext.refl _)⟩
      simp only [List.cons.injEq, Value.int.injEq, Value.bool.injEq, true_and, and_true]
      unfold kidsI at *
      (repeat' split) <;> (first | omega | simp_all | (constructor <;> first | omega | (simp; omega)))
    · have hp17 := of_decide_eq_false hb17
      refine W.condFb rfl hb17 ?_
      refine W.seqK fun K20 hK20 => ?_
      refine W.region ?_
      refine Rg.od rfl rfl rfl (OpT.eqlI rfl rfl ?_)
      refine Rg.od rfl rfl rfl (OpT.assign rfl ?_)
      refine Rg.nil ?_
      refine hK20 _ _ ?_
      rcases Bool.eq_false_or_eq_true (decide (k = 5)) with hb21 | hb21
      · have hp21 := of_decide_eq_true hb21
        refine W.condTb rfl hb21 ?_
        refine W.skip ?_
        refine hK15 _ _ ?_
        refine W.condTb rfl hb21 ?_
        refine W.exit ?_
        refine hK6 _ _ ?_
        refine W.region ?_
        refine Rg.od rfl rfl rfl (OpT.move rfl ?_)
        refine Rg.od rfl rfl rfl (OpT.add rfl rfl (by omega) ?_)
        refine Rg.od rfl rfl rfl (OpT.assign rfl ?_)
        refine Rg.nil ?_
        refine hK5 _ _ ?_
        refine W.region ?_
        refine Rg.od rfl rfl rfl (OpT.move rfl ?_)
        refine Rg.od rfl rfl rfl (OpT.add rfl rfl (by omega) ?_)
        refine Rg.od rfl rfl rfl (OpT.assign rfl ?_)
        refine Rg.nil ?_
        refine hK4 _ _ ?_
        refine W.seqK fun K22 hK22 => ?_
        refine W.seqK fun K23 hK23 => ?_
        refine W.region ?_
        refine Rg.od rfl rfl rfl (OpT.move rfl ?_)
        refine Rg.od rfl rfl rfl (OpT.assign rfl ?_)
        refine Rg.od rfl rfl rfl (OpT.assign rfl ?_)
        refine Rg.nil ?_
        refine hK23 _ _ ?_
        refine W.ret ?_
        refine ⟨_, Res.two rfl rfl rfl, ?_⟩
        refine ⟨congrArg Value.tuple (congrArg List.toArray ?_), (Ext.refl _)⟩
        simp only [List.cons.injEq, Value.int.injEq, Value.bool.injEq, true_and, and_true]
        unfold kidsI at *
        (repeat' split) <;> (first | omega | simp_all | (constructor <;> first | omega | (simp; omega)))
      · have hp21 := of_decide_eq_false hb21
        refine W.condFb rfl hb21 ?_
        refine W.region ?_
        refine Rg.od rfl rfl rfl (OpT.eqlI rfl rfl ?_)
        refine Rg.od rfl rfl rfl (OpT.assign rfl ?_)
        refine Rg.nil ?_
        refine hK15 _ _ ?_
        rcases Bool.eq_false_or_eq_true (decide (k = 6)) with hb24 | hb24
        · have hp24 := of_decide_eq_true hb24
          refine W.condTb rfl hb24 ?_
          refine W.exit ?_
          refine hK6 _ _ ?_
          refine W.region ?_
          refine Rg.od rfl rfl rfl (OpT.move rfl ?_)
          refine Rg.od rfl rfl rfl (OpT.add rfl rfl (by omega) ?_)
          refine Rg.od rfl rfl rfl (OpT.assign rfl ?_)
          refine Rg.nil ?_
          refine hK5 _ _ ?_
          refine W.region ?_
          refine Rg.od rfl rfl rfl (OpT.move rfl ?_)
          refine Rg.od rfl rfl rfl (OpT.add rfl rfl (by omega) ?_)
          refine Rg.od rfl rfl rfl (OpT.assign rfl ?_)
          refine Rg.nil ?_
          refine hK4 _ _ ?_
          refine W.seqK fun K25 hK25 => ?_
          refine W.seqK fun K26 hK26 => ?_
          refine W.region ?_
          refine Rg.od rfl rfl rfl (OpT.move rfl ?_)
          refine Rg.od rfl rfl rfl (OpT.assign rfl ?_)
          refine Rg.od rfl rfl rfl (OpT.assign rfl ?_)
          refine Rg.nil ?_
          refine hK26 _ _ ?_
          refine W.ret ?_
          refine ⟨_, Res.two rfl rfl rfl, ?_⟩
          refine ⟨congrArg Value.tuple (congrArg List.toArray ?_), (Ext.refl _)⟩
          simp only [List.cons.injEq, Value.int.injEq, Value.bool.injEq, true_and, and_true]
          unfold kidsI at *
          (repeat' split) <;> (first | omega | simp_all | (constructor <;> first | omega | (simp; omega)))
        · have hp24 := of_decide_eq_false hb24
          refine W.condFb rfl hb24 ?_
          refine W.skip ?_
          refine hK14 _ _ ?_
          refine W.seqK fun K27 hK27 => ?_
          refine W.seqK fun K28 hK28 => ?_
          refine W.region ?_
          refine Rg.od rfl rfl rfl (OpT.eqlI rfl rfl ?_)
          refine Rg.od rfl rfl rfl (OpT.assign rfl ?_)
          refine Rg.nil ?_
          refine hK28 _ _ ?_
          rcases Bool.eq_false_or_eq_true (decide (k = 8)) with hb29 | hb29
          · have hp29 := of_decide_eq_true hb29
            refine W.condTb rfl hb29 ?_
            refine W.exit ?_
            refine hK5 _ _ ?_
            refine W.region ?_
            refine Rg.od rfl rfl rfl (OpT.move rfl ?_)
            refine Rg.od rfl rfl rfl (OpT.add rfl rfl (by omega) ?_)
            refine Rg.od rfl rfl rfl (OpT.assign rfl ?_)
            refine Rg.nil ?_
            refine hK4 _ _ ?_
            refine W.seqK fun K30 hK30 => ?_
            refine W.seqK fun K31 hK31 => ?_
            refine W.region ?_
            refine Rg.od rfl rfl rfl (OpT.move rfl ?_)
            refine Rg.od rfl rfl rfl (OpT.assign rfl ?_)
            refine Rg.od rfl rfl rfl (OpT.assign rfl ?_)
            refine Rg.nil ?_
            refine hK31 _ _ ?_
            refine W.ret ?_
            refine ⟨_, Res.two rfl rfl rfl, ?_⟩
            refine ⟨congrArg Value.tuple (congrArg List.toArray ?_), (Ext.refl _)⟩
            simp only [List.cons.injEq, Value.int.injEq, Value.bool.injEq, true_and, and_true]
            unfold kidsI at *
            (repeat' split) <;> (first | omega | simp_all | (constructor <;> first | omega | (simp; omega)))
          · have hp29 := of_decide_eq_false hb29
            refine W.condFb rfl hb29 ?_
            refine W.skip ?_
            refine hK27 _ _ ?_
            refine W.seqK fun K32 hK32 => ?_
            refine W.seqK fun K33 hK33 => ?_
            refine W.region ?_
            refine Rg.od rfl rfl rfl (OpT.eqlI rfl rfl ?_)
            refine Rg.od rfl rfl rfl (OpT.assign rfl ?_)
            refine Rg.nil ?_
            refine hK33 _ _ ?_
            rcases Bool.eq_false_or_eq_true (decide (k = 1)) with hb34 | hb34
            · have hp34 := of_decide_eq_true hb34
              refine W.condTb rfl hb34 ?_
              refine W.skip ?_
              refine hK32 _ _ ?_
              refine W.condTb rfl hb34 ?_
              refine W.exit ?_
              refine hK4 _ _ ?_
              refine W.seqK fun K35 hK35 => ?_
              refine W.seqK fun K36 hK36 => ?_
              refine W.region ?_
              refine Rg.od rfl rfl rfl (OpT.move rfl ?_)
              refine Rg.od rfl rfl rfl (OpT.assign rfl ?_)
              refine Rg.od rfl rfl rfl (OpT.assign rfl ?_)
              refine Rg.nil ?_
              refine hK36 _ _ ?_
              refine W.ret ?_
              refine ⟨_, Res.two rfl rfl rfl, ?_⟩
              refine ⟨congrArg Value.tuple (congrArg List.toArray ?_), (Ext.refl _)⟩
              simp only [List.cons.injEq, Value.int.injEq, Value.bool.injEq, true_and, and_true]
              unfold kidsI at *
              (repeat' split) <;> (first | omega | simp_all | (constructor <;> first | omega | (simp; omega)))
            · have hp34 := of_decide_eq_false hb34
              refine W.condFb rfl hb34 ?_
              refine W.seqK fun K37 hK37 => ?_
              refine W.region ?_
              refine Rg.od rfl rfl rfl (OpT.eqlI rfl rfl ?_)
              refine Rg.od rfl rfl rfl (OpT.assign rfl ?_)
              refine Rg.nil ?_
              refine hK37 _ _ ?_
              rcases Bool.eq_false_or_eq_true (decide (k = 2)) with hb38 | hb38
              · have hp38 := of_decide_eq_true hb38
                refine W.condTb rfl hb38 ?_
                refine W.skip ?_
                refine hK32 _ _ ?_
                refine W.condTb rfl hb38 ?_
                refine W.exit ?_
                refine hK4 _ _ ?_
                refine W.seqK fun K39 hK39 => ?_
                refine W.seqK fun K40 hK40 => ?_
                refine W.region ?_
                refine Rg.od rfl rfl rfl (OpT.move rfl ?_)
                refine Rg.od rfl rfl rfl (OpT.assign rfl ?_)
                refine Rg.od rfl rfl rfl (OpT.assign rfl ?_)
                refine Rg.nil ?_
                refine hK40 _ _ ?_
                refine W.ret ?_
                refine ⟨_, Res.two rfl rfl rfl, ?_⟩
                refine ⟨congrArg Value.tuple (congrArg List.toArray ?_), (Ext.refl _)⟩
                simp only [List.cons.injEq, Value.int.injEq, Value.bool.injEq, true_and, and_true]
                unfold kidsI at *
                (repeat' split) <;> (first | omega | simp_all | (constructor <;> first | omega | (simp; omega)))
              · have hp38 := of_decide_eq_false hb38
                refine W.condFb rfl hb38 ?_
                refine W.region ?_
                refine Rg.od rfl rfl rfl (OpT.eqlI rfl rfl ?_)
                refine Rg.od rfl rfl rfl (OpT.assign rfl ?_)
                refine Rg.nil ?_
                refine hK32 _ _ ?_
                rcases Bool.eq_false_or_eq_true (decide (k = 3)) with hb41 | hb41
                · have hp41 := of_decide_eq_true hb41
                  refine W.condTb rfl hb41 ?_
                  refine W.exit ?_
                  refine hK4 _ _ ?_
                  refine W.seqK fun K42 hK42 => ?_
                  refine W.seqK fun K43 hK43 => ?_
                  refine W.region ?_
                  refine Rg.od rfl rfl rfl (OpT.move rfl ?_)
                  refine Rg.od rfl rfl rfl (OpT.assign rfl ?_)
                  refine Rg.od rfl rfl rfl (OpT.assign rfl ?_)
                  refine Rg.nil ?_
                  refine hK43 _ _ ?_
                  refine W.ret ?_
                  refine ⟨_, Res.two rfl rfl rfl, ?_⟩
                  refine ⟨congrArg Value.tuple (congrArg List.toArray ?_), (Ext.refl _)⟩
                  simp only [List.cons.injEq, Value.int.injEq, Value.bool.injEq, true_and, and_true]
                  unfold kidsI at *
                  (repeat' split) <;> (first | omega | simp_all | (constructor <;> first | omega | (simp; omega)))
                · have hp41 := of_decide_eq_false hb41
                  refine W.condFb rfl hb41 ?_
                  refine W.skip ?_
                  refine hK8 _ _ ?_
                  refine W.exit ?_
                  refine hK2 _ _ ?_
                  refine W.seqK fun K44 hK44 => ?_
                  refine W.region ?_
                  refine Rg.od rfl rfl rfl (OpT.assign rfl ?_)
                  refine Rg.od rfl rfl rfl (OpT.assign rfl ?_)
                  refine Rg.nil ?_
                  refine hK44 _ _ ?_
                  refine W.ret ?_
                  refine ⟨_, Res.two rfl rfl rfl, ?_⟩
                  refine ⟨congrArg Value.tuple (congrArg List.toArray ?_), (Ext.refl _)⟩
                  simp only [List.cons.injEq, Value.int.injEq, Value.bool.injEq, true_and, and_true]
                  unfold kidsI at *
                  (repeat' split) <;> (first | omega | simp_all | (constructor <;> first | omega | (simp; omega)))
end Go.Proofs.YtfljbnhhkdaobaaGreat

/-
  Infos and rules: how they lie.
-/
namespace Go.Proofs.YtfljbnhhkdaobaaGreat
open Go Go.RowKit Go.Proofs.Bw
set_option linter.unusedVariables false
set_option linter.unusedSimpArgs false
def encS : Enc ByteArray where
  sz := 1
  rep w R cs s := cs = [.string s] ∧ s.size ≤ 9223372036854775807
  pos := by omega
  len h := by rw [h.1]; rfl
  one h u hu := by rw [h.1] at hu; simp at hu; subst hu; rfl
  mod h _ _ := h
  mono h _ := h
  small h := h
def encI : Enc Int where
  sz := 1
  rep w R cs n := cs = [.int .i64 n] ∧ i64ok n
  pos := by omega
  len h := by rw [h.1]; rfl
  one h u hu := by rw [h.1] at hu; simp at hu; subst hu; rfl
  mod h _ _ := h
  mono h _ := h
  small h := h
def encL : Enc L where
  sz := 5
  rep w R cs l := cs = l.cells ∧ l.wf
  pos := by omega
  len h := by rw [h.1]; rfl
  one h u hu := by
    rw [h.1] at hu
    simp only [L.cells, List.mem_cons, List.not_mem_nil, or_false] at hu
    rcases hu with rfl | rfl | rfl | rfl | rfl <;> rfl
  mod h _ _ := h
  mono h _ := h
  small h := h
theorem VT.ones {w : World} {R : Nat → Prop} {cs : List Value} {t : T} (h : VT w R cs t) : ∀ u ∈ cs, u.oneCell' = true := fun u hu => by
  cases h
  simp only [List.mem_cons, List.not_mem_nil, or_false] at hu
  rcases hu with rfl | rfl | rfl | rfl | rfl <;> rfl
def encT : Enc T where
  sz := 5
  rep := VT
  pos := by omega
  len h := h.length
  one h := VT.ones h
  mod h := h.mod
  mono h := h.mono
  small h := h.small
theorem sl_T {w : World} {R : Nat → Prop} {A : Option Addr} {ts : List T} (h : SlT w R A ts) : Sl encT w R A ts := fun i x hx => by
  obtain ⟨cs, h1, h2⟩ := h
  obtain ⟨a, ha, hb, hc⟩ := h2 i x hx
  exact ⟨a, cs i, ha, hb, hc, h1 i x hx⟩
theorem T_sl {w : World} {R : Nat → Prop} {A : Option Addr} {ts : List T} (h : Sl encT w R A ts) : SlT w R A ts := by
  obtain ⟨css, h1, h2⟩ := h.reps
  have hg : ∀ i x, ts[i]? = some x → css[i]? = some (css.getD i []) := fun i x hx => by
    obtain ⟨hi, _⟩ := List.getElem?_eq_some_iff.1 hx
    rw [List.getD_eq_getElem?_getD, List.getElem?_eq_getElem (by rw [h1.1]; exact hi)]; rfl
  exact ⟨fun i => css.getD i [], fun i x hx => h1.2 i _ x (hg i x hx) hx, fun i x hx => h2 i _ (hg i x hx)⟩
theorem L_sl {w : World} {R : Nat → Prop} {A : Option Addr} {ls : List L} (h : Sl encL w R A ls) : SlL w R A ls := fun i x hx => by
  obtain ⟨a, cs, h1, h2, h3, rfl, h5⟩ := h i x hx
  exact ⟨a, h1, h2, h3, h5⟩
structure Rl where
  c : ByteArray
  f : Int
  b : T
structure Inf where
  kind : Int
  name : ByteArray
  params : Int
  ty : T
  val : T
  height : Int
  block : ByteArray
  of_ : ByteArray
  fixed : Int
  index : Int
  no : Int
  fields : Int
  motives : Int
  minors : Int
  rules : List Rl
  ctors : Int
  record : Bool
def VR (w : World) (R : Nat → Prop) (cs : List Value) (r : Rl) : Prop := ∃ cb, cs = [.string r.c, .int .i64 r.f] ++ cb ∧ VT w R cb r.b ∧ i64ok r.f ∧ r.c.size ≤ 9223372036854775807
def encR : Enc Rl where
  sz := 7
  rep := VR
  pos := by omega
  len := by
    rintro w R cs r ⟨cb, rfl, h2, _⟩
    simp [h2.length]
  one := by
    rintro w R cs r ⟨cb, rfl, h2, _⟩ u hu
    simp only [List.cons_append, List.nil_append, List.mem_cons] at hu
    rcases hu with rfl | rfl | hu
    · rfl
    · rfl
    · exact VT.ones h2 u hu
  mod := by
    rintro S R w w' cs r ⟨cb, h1, h2, h3⟩ hm hS
    exact ⟨cb, h1, h2.mod hm hS, h3⟩
  mono := by
    rintro R R' w cs r ⟨cb, h1, h2, h3⟩ hr
    exact ⟨cb, h1, h2.mono hr, h3⟩
  small := by
    rintro R w cs r ⟨cb, h1, h2, h3⟩
    exact ⟨cb, h1, h2.small, h3⟩
def Inf.ok (x : Inf) : Prop := (0 ≤ x.kind ∧ x.kind ≤ 255) ∧ x.name.size ≤ 9223372036854775807 ∧ i64ok x.params ∧ i64ok x.height ∧ x.block.size ≤ 9223372036854775807 ∧ x.of_.size ≤ 9223372036854775807 ∧
  i64ok x.fixed ∧ i64ok x.index ∧ i64ok x.no ∧ i64ok x.fields ∧ i64ok x.motives ∧ i64ok x.minors ∧ i64ok x.ctors
def Inf.cells (x : Inf) (ct cv : List Value) (ra : Option Addr) (rc : Nat) : List Value :=
  [.int .u8 x.kind, .string x.name, .int .i64 x.params] ++ ct ++ cv ++ [.int .i64 x.height, .string x.block, .string x.of_, .int .i64 x.fixed, .int .i64 x.index, .int .i64 x.no, .int .i64 x.fields, .int .i64 x.motives, .int .i64 x.minors, .slice ra x.rules.length rc, .int .i64 x.ctors, .bool x.record]
def VI (w : World) (R : Nat → Prop) (cs : List Value) (x : Inf) : Prop := ∃ ct cv ra rc, cs = x.cells ct cv ra rc ∧ VT w R ct x.ty ∧ VT w R cv x.val ∧ Sl encR w R ra x.rules ∧ lenOk x.rules.length rc ∧ x.ok
def encInf : Enc Inf where
  sz := 25
  rep := VI
  pos := by omega
  len := by
    rintro w R cs x ⟨ct, cv, ra, rc, rfl, h2, h3, _⟩
    simp [Inf.cells, h2.length, h3.length]
  one := by
    rintro w R cs x ⟨ct, cv, ra, rc, rfl, h2, h3, _⟩ u hu
    simp only [Inf.cells, List.mem_append] at hu
    rcases hu with ((hu | hu) | hu) | hu
    · simp only [List.mem_cons, List.not_mem_nil, or_false] at hu
      rcases hu with rfl | rfl | rfl <;> rfl
    · exact VT.ones h2 u hu
    · exact VT.ones h3 u hu
    · simp only [List.mem_cons, List.not_mem_nil, or_false] at hu
      rcases hu with rfl | rfl | rfl | rfl | rfl | rfl | rfl | rfl | rfl | rfl | rfl | rfl <;> rfl
  mod := by
    rintro S R w w' cs x ⟨ct, cv, ra, rc, h1, h2, h3, h4, h5⟩ hm hS
    exact ⟨ct, cv, ra, rc, h1, h2.mod hm hS, h3.mod hm hS, h4.mod hm hS, h5⟩
  mono := by
    rintro R R' w cs x ⟨ct, cv, ra, rc, h1, h2, h3, h4, h5⟩ hr
    exact ⟨ct, cv, ra, rc, h1, h2.mono hr, h3.mono hr, h4.mono hr, h5⟩
  small := by
    rintro R w cs x ⟨ct, cv, ra, rc, h1, h2, h3, h4, h5⟩
    exact ⟨ct, cv, ra, rc, h1, h2.small, h3.small, h4.small, h5⟩
theorem VI.ext {w w' : World} {R : Nat → Prop} {cs : List Value} {x : Inf} (h : VI w R cs x) (hx : Ext w w') : VI w' R cs x := encInf.mod h hx fun _ _ h => h
theorem VR.ext {w w' : World} {R : Nat → Prop} {cs : List Value} {x : Rl} (h : VR w R cs x) (hx : Ext w w') : VR w' R cs x := encR.mod h hx fun _ _ h => h
theorem elT : ElOk Tryz.prog 33 5 80 := ⟨⟨Tryz.t33, Tryz.t33.zero.get rfl, by kernel_rfl, rfl, rfl, rfl, rfl⟩, by omega⟩
theorem elR : ElOk Tryz.prog 84 7 104 := ⟨⟨Tryz.t84, Tryz.t84.zero.get rfl, by kernel_rfl, rfl, rfl, rfl, rfl⟩, by omega⟩
theorem elInf : ElOk Tryz.prog 36 25 320 := ⟨⟨Tryz.t36, Tryz.t36.zero.get rfl, by kernel_rfl, rfl, rfl, rfl, rfl⟩, by omega⟩
end Go.Proofs.YtfljbnhhkdaobaaGreat

/-
  Nodes and terms that may be, their size: the document's and the program's.
-/
namespace Go.Proofs.YtfljbnhhkdaobaaGreat
open Go Go.RowKit Go.Proofs.Bw
set_option linter.unusedVariables false
set_option linter.unusedSimpArgs false
theorem sel_or (a b : Bool) : sel a true b = (a || b) := by cases a <;> rfl
theorem sel_and (a b : Bool) : sel a b false = (a && b) := by cases a <;> simp [sel]
theorem dec_nil (s : ByteArray) : decide (s = (⟨#[]⟩ : ByteArray)) = decide (s.size = 0) := by simp only [bytes_nil]
theorem dec_len {α : Type} (l : List α) (n : Nat) : decide ((l.length : Int) = n) = decide (l.length = n) := by rw [decide_eq_decide]; omega
theorem sel_rng (n a b : Int) : sel (decide (a ≤ n)) (decide (n ≤ b)) false = decide (a ≤ n ∧ n ≤ b) := by rw [sel_and]; simp
theorem sel_rngL (n a b : Int) : sel (decide (a ≤ n)) (decide (n < b)) false = decide (a ≤ n ∧ n < b) := by rw [sel_and]; simp
theorem dec_le {α : Type} (l : List α) (n : Nat) : decide ((l.length : Int) ≤ n) = decide (l.length ≤ n) := by rw [decide_eq_decide]; omega
theorem node_fin {k n : Int} {s : ByteArray} {ls : List L} {ts : List T} {p q r : Bool} (hk : 0 ≤ kidsI k) (ht : (ts.length : Int) = kidsI k) (ha : ls.all L.may = true) (hp : p = if k = 3 ∨ k = 8 then nameB s else decide (s.size = 0))
    (hq : q = if k = 2 then decide (0 ≤ n ∧ n ≤ 1048576) else if k = 8 then decide (0 ≤ n ∧ n < 12) else decide (n = 0)) (hr : r = if k = 1 then decide (ls.length = 1) else if k = 3 then decide (ls.length ≤ 4) else decide (ls.length = 0)) :
    sel (sel p q false) r false = nodeB (.mk k n s ls ts) := by
  rw [sel_and, sel_and, hp, hq, hr]
  simp only [nodeB, decide_eq_true hk, decide_eq_true ht, ha, Bool.true_and]
set_option maxRecDepth 20000 in
theorem rZero_runs (w0 : World) : Runs Tryz.prog 69 #[] w0 fun v w' => v = .agg lZero.cells.toArray ∧ Ext w0 w' := by
  refine Runs.of_vc cx_ok [0] [] Tryz.func69 rfl rfl rfl (Holds.nil _) ?_
  intro g1 w1 e1 x1 z1 hh1
  refine OpT.buildArr (.cons rfl (.cons rfl (.cons rfl (.cons rfl (.nil))))) Tryz.zeroValue61 Tryz.underlying61 Tryz.sizeOf3 rfl ?_
  refine Lands.ret (s := .a [.v (.int .i64 (-1)), .v (.int .i64 (-1)), .v (.int .i64 (-1)), .v (.int .i64 (-1))]) rfl rfl hh1 ?_
  intro w2 m2 z2 hh2
  replace m2 : Upd g1 w1 w2 := m2
  exact ⟨rfl, x1.upd m2 (by omega)⟩
set_option maxRecDepth 20000 in
theorem lmay_runs (l : L) (w0 : World) : Runs Tryz.prog 161 #[.agg l.cells.toArray] w0 fun v w' => v = .bool l.may ∧ Ext w0 w' := by
  refine Runs.of_vc (ρ := []) cx_ok [0, 1, 2, 4, 12, 14, 15, 16, 23] [.a [.v (.int .i64 l.c), .v (.int .i64 l.p0), .v (.int .i64 l.p1), .v (.int .i64 l.p2), .v (.int .i64 l.p3)]] Tryz.func161 rfl rfl rfl (Holds.nil w0) ?_
  intro g1 w1 e1 x1 z1 hh1
  refine Or.inl (And.intro (fun h => ?_) (fun h => ?_))
  · refine And.intro (congrArg Value.bool ?_) x1
    simp only [sel, Bool.or_eq_true, Bool.and_eq_true, Bool.not_eq_true', Bool.not_eq_false', decide_eq_true_eq, decide_eq_false_iff_not, Bool.or_eq_false_iff, Bool.and_eq_false_iff, Bool.and_false, Bool.or_false, Bool.and_true, Bool.or_true, Bool.true_and, Bool.false_or, Bool.true_or, Bool.false_and, Bool.false_eq_true, Bool.true_eq_false, or_false, false_or, and_true, true_and, Bool.not_true, Bool.not_false] at h
    exact (L.may_no (by omega)).symm
  have hc : 0 ≤ l.c ∧ l.c ≤ 1099511627776 := by simp only [sel, Bool.or_eq_true, Bool.and_eq_true, Bool.not_eq_true', Bool.not_eq_false', decide_eq_true_eq, decide_eq_false_iff_not, Bool.or_eq_false_iff, Bool.and_eq_false_iff, Bool.and_false, Bool.or_false, Bool.and_true, Bool.or_true, Bool.true_and, Bool.false_or, Bool.true_or, Bool.false_and, Bool.false_eq_true, Bool.true_eq_false, or_false, false_or, and_true, true_and, Bool.not_true, Bool.not_false] at h; omega
  refine vLoop_upd (σ := Nat) [2, 4, 15, 16, 17, 18, 19, 20, 21, 22, 23, 24] (fun q => [(15, .v (.int .i64 q))]) [] (fun _ => []) (fun q w' => Ext w0 w' ∧ q ≤ 4 ∧ ∀ i, i < q → -1 ≤ l.p i ∧ l.p i ≤ 1099511627776) (fun q => 4 - q) 0 (fun _ => ⟨rfl, rfl⟩)
    ⟨(by repeat (first | exact trivial | refine And.intro rfl ?_)), (by repeat (first | exact trivial | refine And.intro rfl ?_)), (by repeat (first | exact trivial | refine And.intro rfl ?_)), (by repeat (first | exact trivial | refine And.intro rfl ?_)), x1, Nat.zero_le _, fun i hi => by omega⟩ ?_
  rintro q w2 hh2 ⟨x2, hq, hok⟩
  refine Or.inl (And.intro (fun h => ?_) (fun h => ?_))
  · have hlt : q < 4 := by have := of_decide_eq_true h; omega
    refine OpT.indexArr Tryz.underlying61 Tryz.sizeOf3 Tryz.isAgg3 rfl rfl ⟨by omega, by omega⟩ (by rw [Int.toNat_natCast]; exact levp_arr hlt) ?_
    refine Lands.v hh2 ?_
    refine Or.inl (And.intro (fun h => ?_) (fun h => ?_))
    · refine ⟨congrArg Value.bool (L.may_noP hlt ?_).symm, x2⟩
      simp only [sel, Bool.or_eq_true, Bool.and_eq_true, Bool.not_eq_true', Bool.not_eq_false', decide_eq_true_eq, decide_eq_false_iff_not, Bool.or_eq_false_iff, Bool.and_eq_false_iff, Bool.and_false, Bool.or_false, Bool.and_true, Bool.or_true, Bool.true_and, Bool.false_or, Bool.true_or, Bool.false_and, Bool.false_eq_true, Bool.true_eq_false, or_false, false_or, and_true, true_and, Bool.not_true, Bool.not_false] at h
      omega
    · have hok1 : ∀ i, i < q + 1 → -1 ≤ l.p i ∧ l.p i ≤ 1099511627776 := fun i hi => by
        by_cases hiq : i = q
        · subst hiq; simp only [sel, Bool.or_eq_true, Bool.and_eq_true, Bool.not_eq_true', Bool.not_eq_false', decide_eq_true_eq, decide_eq_false_iff_not, Bool.or_eq_false_iff, Bool.and_eq_false_iff, Bool.and_false, Bool.or_false, Bool.and_true, Bool.or_true, Bool.true_and, Bool.false_or, Bool.true_or, Bool.false_and, Bool.false_eq_true, Bool.true_eq_false, or_false, false_or, and_true, true_and, Bool.not_true, Bool.not_false] at h; omega
        · exact hok i (by omega)
      refine vsd (by show inKind _ _; simp only [inKind]; omega) ?_
      exact Exists.intro ((q + 1)) ⟨by omega, esub_over (by repeat (first | exact trivial | refine And.intro rfl ?_)) (by repeat (first | exact trivial | refine And.intro rfl ?_)), hsub_over (by repeat (first | exact trivial | refine And.intro rfl ?_)) (by repeat (first | exact trivial | refine And.intro rfl ?_)), x2, by omega, hok1⟩
  · have hge := of_decide_eq_false h
    have hok4 : ∀ i, i < 4 → -1 ≤ l.p i ∧ l.p i ≤ 1099511627776 := fun i hi => hok i (by omega)
    refine vDrw_mk [1] (.one 0 (.one 2 (.one 1 (.one 3 (.one 4 .nil))))) rfl fun w3 x3 hh3 => ?_
    refine (form_runs l w3).mono ?_
    rintro _ w4 ⟨rfl, x4⟩
    have hh4 := hh3.ext x4
    refine Lands.ret (s := .a [.v (.int .i64 l.form.c), .v (.int .i64 l.form.p0), .v (.int .i64 l.form.p1), .v (.int .i64 l.form.p2), .v (.int .i64 l.form.p3)]) rfl rfl hh4 ?_
    refine And.intro x4 ?_
    refine Exists.intro (.v (.bool (l.form.same l))) (And.intro rfl (And.intro (fun w' xx hh => OpT.eqlL (a := l.form) (b := l) rfl rfl ⟨rfl, rfl⟩) ?_))
    exact ⟨congrArg Value.bool (L.may_form hc hok4), x2.trans (x3.trans x4)⟩
theorem node1_runs (l : L) (w0 : World) : Runs Tryz.prog 160 #[.agg l.cells.toArray] w0 fun v w' => v = .bool (!l.may) ∧ Ext w0 w' := by
  refine Runs.of_vc (ρ := []) cx_ok [0, 1, 2] [.a [.v (.int .i64 l.c), .v (.int .i64 l.p0), .v (.int .i64 l.p1), .v (.int .i64 l.p2), .v (.int .i64 l.p3)]] Tryz.func160 rfl rfl rfl (Holds.nil w0) ?_
  intro g1 w1 e1 x1 z1 hh1
  refine vcZ (lmay_runs l w1) hh1 fun w2 x2 z2 hh2 => ?_
  exact ⟨rfl, x1.trans x2⟩
set_option maxRecDepth 20000 in
theorem indexL_runs (la : Option Addr) (lc : Nat) (ls : List L) (w0 : World) (R : Nat → Prop) (hL : SlL w0 R la ls) (hl : lenOk ls.length lc) :
    Runs Tryz.prog 175 #[.slice la ls.length lc, .func (.func 160) #[] #[]] w0 fun v w' => ∃ i : Int, v = .int .i64 i ∧ (0 ≤ i ↔ ls.all L.may = false) ∧ Ext w0 w' := by
  refine Runs.of_vc (ρ := []) cx_ok [0, 1, 4, 5, 7, 8, 9, 16] [.v _, .f 160 [] []] Tryz.func175 rfl rfl rfl (Holds.nil w0) ?_
  refine vLoop_upd (σ := Nat) [4, 5, 8, 9, 10, 11, 12, 13, 14, 15, 16, 17, 18] (fun q => [(8, .v (.int .i64 q))]) [] (fun _ => []) (fun q w' => Ext w0 w' ∧ q ≤ ls.length ∧ (ls.take q).all L.may = true) (fun q => ls.length - q) 0 (fun _ => ⟨rfl, rfl⟩)
    ⟨(by repeat (first | exact trivial | refine And.intro rfl ?_)), (by repeat (first | exact trivial | refine And.intro rfl ?_)), (by repeat (first | exact trivial | refine And.intro rfl ?_)), (by repeat (first | exact trivial | refine And.intro rfl ?_)), Ext.refl _, Nat.zero_le _, rfl⟩ ?_
  rintro q w1 hh1 ⟨x1, hq, hall⟩
  refine Or.inl (And.intro (fun h => ?_) (fun h => ?_))
  · have hlt : q < ls.length := by have := of_decide_eq_true h; omega
    obtain ⟨a1, ha1, hR1, hrow, hwf⟩ := (hL.ext x1).at hlt
    have htk := List.take_succ_eq_append_getElem hlt
    have hmem := List.getElem_mem hlt
    generalize ls[q] = l at *
    refine OpT.indexAddr Tryz.underlying30 Tryz.sizeOf63 rfl rfl ha1 (by first | omega | (simp only [lenOk] at *; omega)) ?_; refine Lands.v hh1 ?_
    refine OpT.loadA Tryz.isAgg63 (by exact Tryz.sizeOf63) rfl hrow ?_; refine Lands.ret (s := .a [.v (.int .i64 l.c), .v (.int .i64 l.p0), .v (.int .i64 l.p1), .v (.int .i64 l.p2), .v (.int .i64 l.p3)]) rfl rfl hh1 ?_
    refine vcZ (node1_runs l w1) hh1 fun w2 x2 z2 hh2 => ?_
    cases hm : l.may with
    | false =>
      refine Or.inl (And.intro (fun _ => ?_) (fun hx => nomatch (rfl).symm.trans hx))
      refine ⟨q, rfl, ⟨fun _ => ?_, fun _ => by omega⟩, x1.trans x2⟩
      rw [Bool.eq_false_iff]
      intro ha
      rw [List.all_eq_true.1 ha l hmem] at hm
      cases hm
    | true =>
      refine Or.inl (And.intro (fun hx => nomatch (rfl).symm.trans hx) (fun _ => ?_))
      have hl1 := hl.1
      have hl2 := hl.2
      refine vsd (by show inKind _ _; simp only [inKind]; omega) ?_
      exact Exists.intro ((q + 1)) ⟨by omega, esub_over (by repeat (first | exact trivial | refine And.intro rfl ?_)) (by repeat (first | exact trivial | refine And.intro rfl ?_)), hsub_over (by repeat (first | exact trivial | refine And.intro rfl ?_)) (by repeat (first | exact trivial | refine And.intro rfl ?_)), x1.trans x2, hlt, by rw [htk, List.all_append, hall]; simp [hm]⟩
  · obtain rfl : q = ls.length := by have := of_decide_eq_false h; omega
    rw [List.take_length] at hall
    exact ⟨-1, rfl, ⟨fun h => by omega, fun h => by rw [hall] at h; cases h⟩, x1⟩
theorem containsL_runs (la : Option Addr) (lc : Nat) (ls : List L) (w0 : World) (R : Nat → Prop) (hL : SlL w0 R la ls) (hl : lenOk ls.length lc) :
    Runs Tryz.prog 159 #[.slice la ls.length lc, .func (.func 160) #[] #[]] w0 fun v w' => v = .bool (!ls.all L.may) ∧ Ext w0 w' := by
  refine Runs.of_vc (ρ := []) cx_ok [0, 1, 4] [.v _, .v _] Tryz.func159 rfl rfl rfl (Holds.nil w0) ?_
  refine (indexL_runs la lc ls w0 R hL hl).mono ?_
  rintro _ w1 ⟨i, rfl, hi, x1⟩
  have hh1 := (Holds.nil w0).ext x1
  refine Lands.v hh1 ?_
  refine ⟨congrArg Value.bool ?_, x1⟩
  cases hm : ls.all L.may with
  | false => exact decide_eq_true (hi.2 hm)
  | true => exact decide_eq_false fun h => by rw [hi.1 h] at hm; cases hm
set_option maxRecDepth 20000 in
set_option maxHeartbeats 1000000 in
theorem node_runs (t : T) (cs : List Value) (w0 : World) (R : Nat → Prop) (hv : VT w0 R cs t) : Runs Tryz.prog 138 #[.agg cs.toArray] w0 fun v w' => v = .bool (nodeB t) ∧ Ext w0 w' := by
  obtain ⟨k, n, s, ls, ts, la, lc, ta, tc, rfl, rfl, hk, hn, hs, hll, hlt, hL, hT⟩ := hv.inv
  refine Runs.of_vc (ρ := []) cx_ok [0, 1, 2, 3, 4, 5, 6, 7, 27, 39, 40, 46, 56, 65] [.a [.v (.int .u8 k), .v (.int .i64 n), .v (.string s), .v (.slice la ls.length lc), .v (.slice ta ts.length tc)]] Tryz.func138 rfl rfl rfl (Holds.nil w0) ?_
  intro g1 w1 e1 x1 z1 hh1
  refine vcZ (kids_runs k w1) hh1 fun w2 x2 z2 hh2 => ?_
  refine Or.inl (Exists.intro (.bool (!ls.all L.may)) (And.intro (fun _ => ?_) (fun w3 x3 hh3 => ?_)))
  · exact containsL_runs la lc ls w2 R (hL.ext (x1.trans x2)) hll
  have y3 := x1.trans (x2.trans x3)
  have hcond : (!ls.all L.may) = true ∨ ls.all L.may = true := by cases ls.all L.may <;> simp
  generalize hall : ls.all L.may = al at *
  refine Or.inl (And.intro (fun h => ?_) (fun h => ?_))
  · refine ⟨congrArg Value.bool ?_, y3⟩
    symm
    rw [Bool.eq_false_iff]
    intro hb
    obtain ⟨b1, b2, b3, -⟩ := (nodeB_iff k n s ls ts).1 hb
    rw [hall] at b3
    subst b3
    simp only [sel_or, Bool.or_eq_true, Bool.not_eq_true', decide_eq_false_iff_not, Bool.true_eq_false, or_false] at h
    rw [if_neg (by omega)] at h
    omega
  have hk0 : 0 ≤ kidsI k ∧ (ts.length : Int) = kidsI k ∧ al = true := by
    simp only [sel_or, Bool.or_eq_false_iff, Bool.not_eq_false', decide_eq_true_eq] at h
    obtain ⟨⟨h1, h2⟩, h3⟩ := h
    rw [if_neg (by omega)] at h2
    exact ⟨h1, h2.symm, h3⟩
  clear h hcond
  obtain ⟨hk1, hk2, rfl⟩ := hk0
  refine vDrw_mk [] (.one 0 (.one 1 (.one 2 (.one 3 (.one 4 (.one 5 (.one 6 (.one 7 (.one 8 (.one 9 (.one 10 (.one 11 (.one 12 .nil))))))))))))) rfl fun w4 x4 hh4 => ?_
  have y4 := y3.trans x4
  refine Or.inl (And.intro (fun h => ?_) (fun h => ?_))
  · obtain rfl : k = 1 := of_decide_eq_true h
    exact ⟨congrArg Value.bool (node_fin hk1 hk2 hall (dec_nil s) rfl (dec_len ls 1)), y4⟩
  have h1 := of_decide_eq_false h
  refine Or.inl (And.intro (fun h => ?_) (fun h => ?_))
  · obtain rfl : k = 2 := of_decide_eq_true h
    exact ⟨congrArg Value.bool (node_fin hk1 hk2 hall (dec_nil s) (sel_rng _ _ _) (dec_len ls 0)), y4⟩
  have h2 := of_decide_eq_false h
  refine Or.inl (And.intro (fun h => ?_) (fun h => ?_))
  · obtain rfl : k = 3 := of_decide_eq_true h
    refine vDrw_mk [2] (.one 0 (.one 1 (.one 3 (.one 4 (.one 5 (.one 6 (.one 2 (.one 7 (.one 8 .nil))))))))) rfl fun w5 x5 hh5 => ?_
    refine vcZ (tname_runs s hs w5) hh5 fun w6 x6 z6 hh6 => And.intro x6 ?_
    exact ⟨congrArg Value.bool (node_fin hk1 hk2 hall rfl rfl (dec_le ls 4)), y4.trans (x5.trans x6)⟩
  have h3 := of_decide_eq_false h
  refine Or.inl (And.intro (fun h => ?_) (fun h => ?_))
  · obtain rfl : k = 8 := of_decide_eq_true h
    refine vDrw_mk [2] (.one 0 (.one 1 (.one 3 (.one 4 (.one 5 (.one 2 (.one 6 (.one 7 (.one 8 (.one 9 (.one 10 (.one 11 (.one 12 .nil))))))))))))) rfl fun w5 x5 hh5 => ?_
    refine vcZ (tname_runs s hs w5) hh5 fun w6 x6 z6 hh6 => And.intro x6 ?_
    exact ⟨congrArg Value.bool (node_fin hk1 hk2 hall rfl (sel_rngL _ _ _) (dec_len ls 0)), y4.trans (x5.trans x6)⟩
  have h8 := of_decide_eq_false h
  exact ⟨congrArg Value.bool (node_fin hk1 hk2 hall ((dec_nil s).trans (by rw [if_neg (by omega)])) (by rw [if_neg h2, if_neg h8]) ((dec_len ls 0).trans (by rw [if_neg h1, if_neg h3]))), y4⟩
set_option maxRecDepth 20000 in
set_option maxHeartbeats 1000000 in
theorem rnode_runs (t : T) (cs : List Value) (w0 : World) (R : Nat → Prop) (hv : VT w0 R cs t) : Runs Tryz.prog 105 #[.agg cs.toArray] w0 fun v w' => v = .bool (nodeB t) ∧ Ext w0 w' := by
  obtain ⟨k, n, s, ls, ts, la, lc, ta, tc, rfl, rfl, hk, hn, hs, hll, hlt, hL, hT⟩ := hv.inv
  refine Runs.of_vc (ρ := []) cx_ok [0, 1, 2, 3, 4, 5, 6, 19, 24, 33, 45, 46, 52, 62, 71] [.a [.v (.int .u8 k), .v (.int .i64 n), .v (.string s), .v (.slice la ls.length lc), .v (.slice ta ts.length tc)]] Tryz.func105 rfl rfl rfl (Holds.nil w0) ?_
  intro g1 w1 e1 x1 z1 hh1
  refine vDrw_mk [2, 10] (.one 0 (.one 1 (.one 2 (.one 3 (.one 4 (.one 5 (.one 6 (.one 7 (.one 8 (.one 9 (.one 10 (.one 11 (.one 12 .nil))))))))))))) rfl fun w2 x2 hh2 => ?_
  refine vcZ (rkids_runs k w2) hh2 fun w3 x3 z3 hh3 => ?_
  refine Or.inl (Exists.intro (.int .i64 (kidsI k)) (And.intro (fun _ => rkids_runs k w3) (fun w4 x4 hh4 => And.intro x4 ?_)))
  have y4 := x1.trans (x2.trans (x3.trans x4))
  have hno : ¬ (0 ≤ kidsI k ∧ (ts.length : Int) = kidsI k ∧ ls.all L.may = true) → false = nodeB (.mk k n s ls ts) := fun h => by
    symm
    rw [Bool.eq_false_iff]
    intro hb
    obtain ⟨b1, b2, b3, -⟩ := (nodeB_iff k n s ls ts).1 hb
    exact h ⟨b1, b2, b3⟩
  refine Or.inl (And.intro (fun h => ?_) (fun h => ?_))
  · simp only [sel_or, Bool.or_eq_true, Bool.not_eq_true', decide_eq_true_eq, decide_eq_false_iff_not] at h
    exact ⟨congrArg Value.bool (hno fun hc => by omega), y4⟩
  simp only [sel_or, Bool.or_eq_false_iff, Bool.not_eq_false', decide_eq_true_eq, decide_eq_false_iff_not] at h
  have hk1 : 0 ≤ kidsI k := by omega
  have hk2 : (ts.length : Int) = kidsI k := by omega
  clear h
  refine vLoop_upd (σ := Nat) [2, 3, 20, 21, 22, 23, 24, 25, 26, 27, 28, 29, 30, 31, 32, 33] (fun q => [(3, .v (.int .i64 q))]) [] (fun _ => []) (fun q w' => Ext w0 w' ∧ q ≤ ls.length ∧ (ls.take q).all L.may = true) (fun q => ls.length - q) 0 (fun _ => ⟨rfl, rfl⟩)
    ⟨(by repeat (first | exact trivial | refine And.intro rfl ?_)), (by repeat (first | exact trivial | refine And.intro rfl ?_)), (by repeat (first | exact trivial | refine And.intro rfl ?_)), (by repeat (first | exact trivial | refine And.intro rfl ?_)), y4, Nat.zero_le _, rfl⟩ ?_
  rintro q w5 hh5 ⟨y5, hq, hal⟩
  refine Or.inl (And.intro (fun h => ?_) (fun h => ?_))
  · have hlt : q < ls.length := by have := of_decide_eq_true h; omega
    obtain ⟨a1, ha1, hR1, hrow, hwf⟩ := (hL.ext y5).at hlt
    have htk := List.take_succ_eq_append_getElem hlt
    have hmem := List.getElem_mem hlt
    generalize ls[q] = l at *
    have hl1 := hll.1
    have hl2 := hll.2
    refine OpT.indexAddr Tryz.underlying30 Tryz.sizeOf63 rfl rfl ha1 (by first | omega | (simp only [lenOk] at *; omega)) ?_; refine Lands.v hh5 ?_
    refine OpT.loadA Tryz.isAgg63 (by exact Tryz.sizeOf63) rfl hrow ?_; refine Lands.ret (s := .a [.v (.int .i64 l.c), .v (.int .i64 l.p0), .v (.int .i64 l.p1), .v (.int .i64 l.p2), .v (.int .i64 l.p3)]) rfl rfl hh5 ?_
    refine vcZ (rmay_runs l w5) hh5 fun w6 x6 z6 hh6 => ?_
    cases hm : l.may with
    | false =>
      refine Or.inl (And.intro (fun _ => ?_) (fun hx => nomatch (rfl).symm.trans hx))
      exact ⟨congrArg Value.bool (hno fun hc => by rw [List.all_eq_true.1 hc.2.2 l hmem] at hm; cases hm), y5.trans x6⟩
    | true =>
      refine Or.inl (And.intro (fun hx => nomatch (rfl).symm.trans hx) (fun _ => ?_))
      refine vsd (by show inKind _ _; simp only [inKind]; omega) ?_
      exact Exists.intro ((q + 1)) ⟨by omega, esub_over (by repeat (first | exact trivial | refine And.intro rfl ?_)) (by repeat (first | exact trivial | refine And.intro rfl ?_)), hsub_over (by repeat (first | exact trivial | refine And.intro rfl ?_)) (by repeat (first | exact trivial | refine And.intro rfl ?_)), y5.trans x6, hlt, by rw [htk, List.all_append, hal]; simp [hm]⟩
  obtain rfl : q = ls.length := by have := of_decide_eq_false h; omega
  rw [List.take_length] at hal
  clear h
  refine Or.inl (And.intro (fun h => ?_) (fun h => ?_))
  · obtain rfl : k = 1 := of_decide_eq_true h
    exact ⟨congrArg Value.bool (node_fin hk1 hk2 hal (dec_nil s) rfl (dec_len ls 1)), y5⟩
  have h1 := of_decide_eq_false h
  refine Or.inl (And.intro (fun h => ?_) (fun h => ?_))
  · obtain rfl : k = 2 := of_decide_eq_true h
    exact ⟨congrArg Value.bool (node_fin hk1 hk2 hal (dec_nil s) (sel_rng _ _ _) (dec_len ls 0)), y5⟩
  have h2 := of_decide_eq_false h
  refine Or.inl (And.intro (fun h => ?_) (fun h => ?_))
  · obtain rfl : k = 3 := of_decide_eq_true h
    refine vcZ (rname_runs s hs w5) hh5 fun w6 x6 z6 hh6 => ?_
    exact ⟨congrArg Value.bool (node_fin hk1 hk2 hal rfl rfl (dec_le ls 4)), y5.trans (x6)⟩
  have h3 := of_decide_eq_false h
  refine Or.inl (And.intro (fun h => ?_) (fun h => ?_))
  · obtain rfl : k = 8 := of_decide_eq_true h
    refine vcZ (rname_runs s hs w5) hh5 fun w6 x6 z6 hh6 => ?_
    exact ⟨congrArg Value.bool (node_fin hk1 hk2 hal rfl (sel_rngL _ _ _) (dec_len ls 0)), y5.trans (x6)⟩
  have h8 := of_decide_eq_false h
  exact ⟨congrArg Value.bool (node_fin hk1 hk2 hal ((dec_nil s).trans (by rw [if_neg (by omega)])) (by rw [if_neg h2, if_neg h8]) ((dec_len ls 0).trans (by rw [if_neg h1, if_neg h3]))), y5⟩
set_option maxRecDepth 20000 in
set_option maxHeartbeats 1000000 in
theorem rmayF_runs (t : T) : ∀ (cs : List Value) (left deep : Int) (w0 : World) (R : Nat → Prop) (hv : VT w0 R cs t) (hb : (-4611686018427387904 ≤ left ∧ left ≤ 4611686018427387904) ∧ -4611686018427387904 ≤ deep ∧ deep ≤ 4611686018427387904),
    Runs Tryz.prog 63 #[.agg cs.toArray, .int .i64 left, .int .i64 deep] w0 fun v w' => v = .int .i64 (mayF t left deep) ∧ Ext w0 w' := by
  induction t using T.ind with
  | h k n s ls ts ih =>
  intro cs left deep w0 R hv hb
  have hv0 := hv
  obtain ⟨k, n, s, ls, ts, la, lc, ta, tc, he, rfl, hk, hn, hs, hll, hlt, hL, hT⟩ := hv.inv
  obtain ⟨⟩ := he
  refine Runs.of_vc (ρ := []) cx_ok [0, 1, 2, 3, 6, 7, 20, 25, 38] [.a [.v (.int .u8 k), .v (.int .i64 n), .v (.string s), .v (.slice la ls.length lc), .v (.slice ta ts.length tc)], .v _, .v _] Tryz.func63 rfl rfl rfl (Holds.nil w0) ?_
  intro g1 w1 e1 x1 z1 hh1
  have hlt_ := hlt
  refine vsd (by show inKind _ _; simp only [inKind]; omega) ?_
  refine Or.inl (Exists.intro (.bool (nodeB (.mk k n s ls ts))) (And.intro (fun _ => rnode_runs _ _ w1 _ (VT.ext hv0 x1)) (fun w2 x2 hh2 => ?_)))
  have y2 := x1.trans x2
  rw [mayF_mk]
  refine Or.inl (And.intro (fun h => ?_) (fun h => ?_))
  · simp only [sel_or, Bool.or_eq_true, Bool.not_eq_true', decide_eq_true_eq] at h
    rw [if_pos (by rcases h with (h | h) | h <;> simp [h])]
    exact ⟨rfl, y2⟩
  simp only [sel_or, Bool.or_eq_false_iff, Bool.not_eq_false', decide_eq_false_iff_not] at h
  obtain ⟨⟨h1, h2⟩, h3⟩ := h
  rw [if_neg (by rw [h3]; simp; omega)]
  refine vLoop_upd (σ := Nat × Int) [1, 6, 7, 21, 22, 23, 24, 25, 26, 27, 28, 29, 30, 31, 32, 33, 34, 35, 36, 37, 38] (fun q => [(7, .v (.int .i64 q.1)), (1, .v (.int .i64 q.2))]) [] (fun _ => []) (fun q w' => Ext w0 w' ∧ q.1 ≤ ts.length ∧ q.2 = maysF (ts.take q.1) (left - 1) (deep - 1) ∧ 0 ≤ q.2 ∧ q.2 ≤ left - 1) (fun q => ts.length - q.1) (0, left - 1) (fun _ => ⟨rfl, rfl⟩)
    ⟨(by repeat (first | exact trivial | refine And.intro rfl ?_)), (by repeat (first | exact trivial | refine And.intro rfl ?_)), (by repeat (first | exact trivial | refine And.intro rfl ?_)), (by repeat (first | exact trivial | refine And.intro rfl ?_)), y2, Nat.zero_le _, by simp [maysF_nil], by omega, by omega⟩ ?_
  rintro ⟨q, l⟩ w3 hh3 ⟨y3, hq, hl, hl0, hl1⟩
  simp only at hq hl hl0 hl1
  refine Or.inl (And.intro (fun h => ?_) (fun h => ?_))
  · have hlt : q < ts.length := by have := of_decide_eq_true h; simp only at this; omega
    obtain ⟨a1, cs1, ha1, hR1, hrow, hv1⟩ := (hT.ext y3).at hlt
    have hstep := maysF_step ts q hlt (left - 1) (deep - 1) (by omega) (by rw [← hl]; exact hl0)
    have hneg := mayF_neg ts[q] l (deep - 1)
    have ih1 := ih ts[q] (List.getElem_mem hlt)
    generalize ts[q] = u at *
    have hu0 := hv1
    obtain ⟨ku, nu, su, lsu, tsu, lau, lcu, tau, tcu, eu, rfl, hku, hnu, hsu, hllu, hltu, hLu, hTu⟩ := hv1.inv
    have hl2 := hlt_.1
    have hl3 := hlt_.2
    refine OpT.indexAddr Tryz.underlying31 Tryz.sizeOf33 rfl rfl ha1 (by first | omega | (simp only [lenOk] at *; omega)) ?_; refine Lands.v hh3 ?_
    refine OpT.loadA Tryz.isAgg33 (by exact Tryz.sizeOf33) rfl hrow ?_; refine Lands.ret (s := .a [.v (.int .u8 ku), .v (.int .i64 nu), .v (.string su), .v (.slice lau lsu.length lcu), .v (.slice tau tsu.length tcu)]) rfl rfl hh3 ?_
    refine vsd (by show inKind _ _; simp only [inKind]; omega) ?_
    refine vcZ (ih1 _ l (deep - 1) w3 R hu0 ⟨by omega, by omega⟩) hh3 fun w4 x4 z4 hh4 => ?_
    rw [← hl] at hstep
    generalize mayF u l (deep - 1) = r at *
    refine Or.inl (And.intro (fun h => ?_) (fun h => ?_))
    · have hr := of_decide_eq_true h
      exact ⟨by rw [hstep.2 hr]; rfl, y3.trans x4⟩
    · have hr := of_decide_eq_false h
      refine vsd (by show inKind _ _; simp only [inKind]; omega) ?_
      exact Exists.intro ((q + 1, r)) ⟨by simp only; omega, esub_over (by repeat (first | exact trivial | refine And.intro rfl ?_)) (by repeat (first | exact trivial | refine And.intro rfl ?_)), hsub_over (by repeat (first | exact trivial | refine And.intro rfl ?_)) (by repeat (first | exact trivial | refine And.intro rfl ?_)), y3.trans x4, by omega, (hstep.1 (by omega)).symm, by omega, by omega⟩
  · obtain rfl : q = ts.length := by have := of_decide_eq_false h; simp only at this; omega
    rw [List.take_length] at hl
    exact ⟨by rw [← hl]; rfl, y3⟩
theorem rMay_runs (t : T) (cs : List Value) (w0 : World) (R : Nat → Prop) (hv : VT w0 R cs t) : Runs Tryz.prog 26 #[.agg cs.toArray] w0 fun v w' => v = .bool (mayT t) ∧ Ext w0 w' := by
  have hv0 := hv
  obtain ⟨k, n, s, ls, ts, la, lc, ta, tc, he, rfl, hk, hn, hs, hll, hlt, hL, hT⟩ := hv.inv
  refine Runs.of_vc (ρ := []) cx_ok [0, 1, 2] [.a [.v (.int .u8 k), .v (.int .i64 n), .v (.string s), .v (.slice la ls.length lc), .v (.slice ta ts.length tc)]] Tryz.func26 rfl rfl rfl (Holds.nil w0) ?_
  intro g1 w1 e1 x1 z1 hh1
  refine vcZ (rmayF_runs t _ 65536 4096 w1 R (VT.ext hv0 x1) (by omega)) hh1 fun w2 x2 z2 hh2 => ?_
  exact ⟨congrArg Value.bool (mayF_T t), x1.trans x2⟩
set_option maxRecDepth 20000 in
set_option maxHeartbeats 1000000 in
theorem rdeep_runs (t : T) : ∀ (cs : List Value) (left deep : Int) (w0 : World) (R : Nat → Prop) (hv : VT w0 R cs t) (hb : (-4611686018427387904 ≤ left ∧ left ≤ 4611686018427387904) ∧ -4611686018427387904 ≤ deep ∧ deep ≤ 4611686018427387904),
    Runs Tryz.prog 57 #[.agg cs.toArray, .int .i64 left, .int .i64 deep] w0 fun v w' => v = .int .i64 (deepF t left deep) ∧ Ext w0 w' := by
  induction t using T.ind with
  | h k n s ls ts ih =>
  intro cs left deep w0 R hv hb
  obtain ⟨k, n, s, ls, ts, la, lc, ta, tc, he, rfl, hk, hn, hs, hll, hlt, hL, hT⟩ := hv.inv
  obtain ⟨⟩ := he
  refine Runs.of_vc (ρ := []) cx_ok [0, 1, 2, 3, 6, 7, 21, 26, 39] [.a [.v (.int .u8 k), .v (.int .i64 n), .v (.string s), .v (.slice la ls.length lc), .v (.slice ta ts.length tc)], .v _, .v _] Tryz.func57 rfl rfl rfl (Holds.nil w0) ?_
  intro g1 w1 e1 x1 z1 hh1
  have hlt_ := hlt
  refine vsd (by show inKind _ _; simp only [inKind]; omega) ?_
  rw [deepF_mk]
  refine Or.inl (And.intro (fun h => ?_) (fun h => ?_))
  · simp only [sel_or, Bool.or_eq_true, Bool.not_eq_true', decide_eq_true_eq] at h
    rw [if_pos (by rcases h with (h | h) | h <;> simp [h])]
    exact ⟨rfl, x1⟩
  simp only [sel_or, Bool.or_eq_false_iff, Bool.not_eq_false', decide_eq_false_iff_not] at h
  obtain ⟨⟨h1, h2⟩, h3⟩ := h
  rw [if_neg (by omega)]
  refine vLoop_upd (σ := Nat × Int) [1, 6, 7, 22, 23, 24, 25, 26, 27, 28, 29, 30, 31, 32, 33, 34, 35, 36, 37, 38, 39] (fun q => [(7, .v (.int .i64 q.1)), (1, .v (.int .i64 q.2))]) [] (fun _ => []) (fun q w' => Ext w0 w' ∧ q.1 ≤ ts.length ∧ q.2 = deepsF (ts.take q.1) (left - 1) (deep - 1) ∧ 0 ≤ q.2 ∧ q.2 ≤ left - 1) (fun q => ts.length - q.1) (0, left - 1) (fun _ => ⟨rfl, rfl⟩)
    ⟨(by repeat (first | exact trivial | refine And.intro rfl ?_)), (by repeat (first | exact trivial | refine And.intro rfl ?_)), (by repeat (first | exact trivial | refine And.intro rfl ?_)), (by repeat (first | exact trivial | refine And.intro rfl ?_)), x1, Nat.zero_le _, by simp [deepsF_nil], by omega, by omega⟩ ?_
  rintro ⟨q, l⟩ w3 hh3 ⟨y3, hq, hl, hl0, hl1⟩
  simp only at hq hl hl0 hl1
  refine Or.inl (And.intro (fun h => ?_) (fun h => ?_))
  · have hlt : q < ts.length := by have := of_decide_eq_true h; simp only at this; omega
    obtain ⟨a1, cs1, ha1, hR1, hrow, hv1⟩ := (hT.ext y3).at hlt
    have hstep := deepsF_step ts q hlt (left - 1) (deep - 1) (by omega) (by rw [← hl]; exact hl0)
    have hneg := deepF_le ts[q] l (deep - 1) hl0
    have ih1 := ih ts[q] (List.getElem_mem hlt)
    generalize ts[q] = u at *
    have hu0 := hv1
    obtain ⟨ku, nu, su, lsu, tsu, lau, lcu, tau, tcu, eu, rfl, hku, hnu, hsu, hllu, hltu, hLu, hTu⟩ := hv1.inv
    have hl2 := hlt_.1
    have hl3 := hlt_.2
    refine OpT.indexAddr Tryz.underlying31 Tryz.sizeOf33 rfl rfl ha1 (by first | omega | (simp only [lenOk] at *; omega)) ?_; refine Lands.v hh3 ?_
    refine OpT.loadA Tryz.isAgg33 (by exact Tryz.sizeOf33) rfl hrow ?_; refine Lands.ret (s := .a [.v (.int .u8 ku), .v (.int .i64 nu), .v (.string su), .v (.slice lau lsu.length lcu), .v (.slice tau tsu.length tcu)]) rfl rfl hh3 ?_
    refine vsd (by show inKind _ _; simp only [inKind]; omega) ?_
    refine vcZ (ih1 _ l (deep - 1) w3 R hu0 ⟨by omega, by omega⟩) hh3 fun w4 x4 z4 hh4 => ?_
    rw [← hl] at hstep
    generalize deepF u l (deep - 1) = r at *
    refine Or.inl (And.intro (fun h => ?_) (fun h => ?_))
    · have hr := of_decide_eq_true h
      exact ⟨by rw [hstep.2 hr]; rfl, y3.trans x4⟩
    · have hr := of_decide_eq_false h
      refine vsd (by show inKind _ _; simp only [inKind]; omega) ?_
      exact Exists.intro ((q + 1, r)) ⟨by simp only; omega, esub_over (by repeat (first | exact trivial | refine And.intro rfl ?_)) (by repeat (first | exact trivial | refine And.intro rfl ?_)), hsub_over (by repeat (first | exact trivial | refine And.intro rfl ?_)) (by repeat (first | exact trivial | refine And.intro rfl ?_)), y3.trans x4, by omega, (hstep.1 (by omega)).symm, by omega, by omega⟩
  · obtain rfl : q = ts.length := by have := of_decide_eq_false h; simp only at this; omega
    rw [List.take_length] at hl
    exact ⟨by rw [← hl]; rfl, y3⟩
theorem rDeep_runs (t : T) (cs : List Value) (w0 : World) (R : Nat → Prop) (hv : VT w0 R cs t) : Runs Tryz.prog 21 #[.agg cs.toArray] w0 fun v w' => v = .bool (isDeep t) ∧ Ext w0 w' := by
  have hv0 := hv
  obtain ⟨k, n, s, ls, ts, la, lc, ta, tc, he, rfl, hk, hn, hs, hll, hlt, hL, hT⟩ := hv.inv
  refine Runs.of_vc (ρ := []) cx_ok [0, 1, 2] [.a [.v (.int .u8 k), .v (.int .i64 n), .v (.string s), .v (.slice la ls.length lc), .v (.slice ta ts.length tc)]] Tryz.func21 rfl rfl rfl (Holds.nil w0) ?_
  intro g1 w1 e1 x1 z1 hh1
  refine vcZ (rdeep_runs t _ 131072 8192 w1 R (VT.ext hv0 x1) (by omega)) hh1 fun w2 x2 z2 hh2 => ?_
  exact ⟨rfl, x1.trans x2⟩
end Go.Proofs.YtfljbnhhkdaobaaGreat

/-
  The same terms; what nodes bind; terms that may be, the program's.
-/
namespace Go.Proofs.YtfljbnhhkdaobaaGreat
open Go Go.RowKit Go.Proofs.Bw
set_option linter.unusedVariables false
set_option linter.unusedSimpArgs false
set_option maxRecDepth 20000 in
theorem binds_runs (k n : Int) (s : ByteArray) (ls : List L) (ts : List T) (i : Nat) (cs : List Value) (w0 : World) (R : Nat → Prop) (hv : VT w0 R cs (.mk k n s ls ts)) : Runs Tryz.prog 156 #[.agg cs.toArray, .int .i64 ((i : Nat) : Int)] w0 fun v w' => v = .int .i64 (binds k i) ∧ Ext w0 w' := by
  obtain ⟨k, n, s, ls, ts, la, lc, ta, tc, ex, rfl, hk, hn, hs, hll, hlt, hL, hT⟩ := hv.inv
  obtain ⟨⟩ := ex
  refine Runs.of_vc (ρ := []) cx_ok [0, 1, 2, 4, 5] [.a [.v (.int .u8 k), .v (.int .i64 n), .v (.string s), .v (.slice la ls.length lc), .v (.slice ta ts.length tc)], .v _] Tryz.func156 rfl rfl rfl (Holds.nil w0) ?_
  intro g1 w1 e1 x1 z1 hh1
  refine Or.inl (And.intro (fun h => ?_) (fun h => ?_))
  · refine ⟨congrArg (Value.int .i64) ?_, x1⟩
    unfold binds
    rw [if_pos]
    simp only [sel, Bool.or_eq_true, Bool.and_eq_true, Bool.not_eq_true', Bool.not_eq_false', decide_eq_true_eq, decide_eq_false_iff_not, Bool.or_eq_false_iff, Bool.and_eq_false_iff, Bool.and_false, Bool.or_false, Bool.and_true, Bool.or_true, Bool.true_and, Bool.false_or, Bool.true_or, Bool.false_and, Bool.false_eq_true, Bool.true_eq_false, or_false, false_or, and_true, true_and, Bool.not_true, Bool.not_false] at h
    omega
  · refine ⟨congrArg (Value.int .i64) ?_, x1⟩
    unfold binds
    rw [if_neg]
    simp only [sel, Bool.or_eq_true, Bool.and_eq_true, Bool.not_eq_true', Bool.not_eq_false', decide_eq_true_eq, decide_eq_false_iff_not, Bool.or_eq_false_iff, Bool.and_eq_false_iff, Bool.and_false, Bool.or_false, Bool.and_true, Bool.or_true, Bool.true_and, Bool.false_or, Bool.true_or, Bool.false_and, Bool.false_eq_true, Bool.true_eq_false, or_false, false_or, and_true, true_and, Bool.not_true, Bool.not_false] at h
    omega
theorem frees_nn (k : Int) (a : Int) : ∀ (x : List T) (i : Nat), 0 ≤ frees k x i a
  | [], _ => by simp [frees]
  | u :: r, i => by have := frees_nn k a r (i + 1); simp only [frees]; omega
theorem frees_append (k : Int) (a : Int) : ∀ (x y : List T) (i : Nat), frees k (x ++ y) i a = max (frees k x i a) (frees k y (i + x.length) a)
  | [], y, i => by
    have h0 := frees_nn k a y i
    simp only [List.nil_append, frees, List.length_nil, Nat.add_zero]; omega
  | u :: x, y, i => by
    simp only [List.cons_append, frees, frees_append k a x y (i + 1), List.length_cons]
    rw [show i + 1 + x.length = i + (x.length + 1) by omega]; omega
theorem frees_take (k a : Int) (ts : List T) (i : Nat) (h : i < ts.length) : frees k (ts.take (i + 1)) 0 a = max (frees k (ts.take i) 0 a) (free ts[i] (a + binds k i)) := by
  rw [take_snoc ts i h, frees_append]
  simp only [frees, List.length_take, Nat.zero_add, Nat.min_eq_left (Nat.le_of_lt h)]
  have := frees_nn k a (ts.take i) 0
  omega
theorem free1_runs (k n : Int) (s : ByteArray) (la ta : Option Addr) (ln lc tn tc : Nat) (around : Int) (g : Nat) (st : Int) (w : World) (hn : k = 2 → 0 ≤ n ∧ n ≤ 1048576) (hb : 0 ≤ around ∧ around ≤ 1099511627776) (bg : Box w g [.int .i64 st]) :
    Runs Tryz.prog 152 #[.agg #[.int .u8 k, .int .i64 n, .string s, .slice la ln lc, .slice ta tn tc], .int .i64 around, .pointer (some ⟨g, 0, none⟩)] w fun v w' => v = .bool true ∧ Box w' g [.int .i64 (if k = 2 then (if n + 1 - around > st then n + 1 - around else st) else st)] ∧ Upd g w w' := by
  have hh := Holds.one (g := g) (cs := [.v (.int .i64 st)]) bg rfl
  refine Runs.of_vc (ρ := [g]) cx_ok [0, 1, 2, 3, 5, 8] [.a [.v (.int .u8 k), .v (.int .i64 n), .v (.string s), .v (.slice la ln lc), .v (.slice ta tn tc)], .v _, .p 0 0] Tryz.func152 rfl rfl rfl hh ?_
  intro g1 w1 e1 x1 z1 hh1
  refine Or.inl (And.intro (fun h => ?_) (fun h => ?_))
  · have h2 : k = 2 := of_decide_eq_true h
    have hn2 := hn h2
    rw [if_pos h2]
    refine vsd (by show inKind _ _; simp only [inKind]; omega) ?_
    refine vsd (by show inKind _ _; simp only [inKind]; omega) ?_
    intro w2 m2 z2 hh2
    replace m2 : Upd g w1 w2 := m2
    exact ⟨rfl, hh2.box 0 _ rfl, x1.toUpd.trans m2⟩
  · have h2 := of_decide_eq_false h
    rw [if_neg h2]
    exact ⟨rfl, bg.ext x1, x1.toUpd⟩
set_option maxRecDepth 20000 in
theorem eachF_runs (t : T) : ∀ (cs : List Value) (around : Int) (g : Nat) (st : Int) (w0 : World) (R : Nat → Prop) (hv : VT w0 R cs t) (hR : ¬ R g) (hno : nodes t = true) (hb : 0 ≤ around ∧ around + depth t ≤ 1099511627776) (hst : 0 ≤ st) (h0 : Box w0 g [.int .i64 st]),
    Runs Tryz.prog 126 #[.agg cs.toArray, .int .i64 around, .func (.func 152) #[] #[.pointer (some ⟨g, 0, none⟩)]] w0 fun v w' => v = .bool true ∧ Box w' g [.int .i64 (max st (free t around))] ∧ Upd g w0 w' := by
  induction t using T.ind with
  | h k n s ls ts ih =>
  intro cs around g st w0 R hv hR hno hb hst h0
  obtain ⟨hnb, hns⟩ := nodes_mk hno
  have hv0 := hv
  obtain ⟨k, n, s, ls, ts, la, lc, ta, tc, he, rfl, hk, hn, hs, hll, hlt, hL, hT⟩ := hv.inv
  obtain ⟨⟩ := he
  have hg := h0.lt
  refine Runs.of_vc (ρ := []) cx_ok [0, 1, 2, 3, 6, 7, 8, 13, 15, 16, 17, 18, 30] [.a [.v (.int .u8 k), .v (.int .i64 n), .v (.string s), .v (.slice la ls.length lc), .v (.slice ta ts.length tc)], .v _, .f 152 [] [.v (.pointer (some ⟨g, 0, none⟩))]] Tryz.func126 rfl rfl rfl (Holds.nil w0) ?_
  intro g1 w1 e1 x1 z1 hh1
  have hds : depth (T.mk k n s ls ts) = 1 + depths ts := by simp only [depth]
  refine (free1_runs k n s la ta ls.length lc ts.length tc around g st w1 (fun h => node_varN hnb h) (by omega) (h0.ext x1)).mono ?_
  rintro _ w2 ⟨rfl, b2, m2⟩
  have hh2 := hh1.mod m2 (fun i hi => by
    match i, hi with
    | 0, _ => intro e; have e : g1 = g := e; omega)
  refine Lands.v hh2 ?_
  refine Or.inl (And.intro (fun hx => nomatch (rfl).symm.trans hx) (fun _ => ?_))
  have hfree : free (T.mk k n s ls ts) around = if k = 2 then max 0 (n + 1 - around) else frees k ts 0 around := by simp only [free]
  have hts : k = 2 → ts = [] := fun h => by subst h; exact node_var hnb
  have l3 := hlt.1
  have l4 := hlt.2
  refine vLoop_upd (σ := Nat) [6, 7, 8, 17, 18, 19, 20, 21, 22, 23, 24, 25, 26, 27, 28, 29, 30, 31] (fun q => [(17, .v (.int .i64 q))]) [] (fun _ => []) (fun q w' => Upd g w0 w' ∧ q ≤ ts.length ∧ Box w' g [.int .i64 (if k = 2 then (if n + 1 - around > st then n + 1 - around else st) else max st (frees k (ts.take q) 0 around))]) (fun q => ts.length - q) 0 (fun _ => ⟨rfl, rfl⟩)
    ⟨(by repeat (first | exact trivial | refine And.intro rfl ?_)), (by repeat (first | exact trivial | refine And.intro rfl ?_)), (by repeat (first | exact trivial | refine And.intro rfl ?_)), (by repeat (first | exact trivial | refine And.intro rfl ?_)), x1.toUpd.trans m2, Nat.zero_le _, ?_⟩ ?_
  · have e : (if k = 2 then (if n + 1 - around > st then n + 1 - around else st) else max st (frees k (ts.take 0) 0 around)) = if k = 2 then (if n + 1 - around > st then n + 1 - around else st) else st := by simp only [List.take_zero, frees]; split <;> omega
    rw [e]; exact b2
  rintro q w3 hh3 ⟨y3, hq, b3⟩
  refine Or.inl (And.intro (fun h => ?_) (fun h => ?_))
  · have hlt : q < ts.length := by have := of_decide_eq_true h; omega
    have hk2 : k ≠ 2 := fun h => by rw [hts h] at hlt; simp at hlt
    rw [if_neg hk2] at b3
    have hdl := depths_le ts q hlt
    have hft := frees_take k around ts q hlt
    have hf0 := frees_nn k around (ts.take q) 0
    obtain ⟨a1, cs1, ha1, -, hrow, hv1⟩ := (hT.upd y3 hR).at hlt
    have ih1 := ih ts[q] (List.getElem_mem hlt)
    have hnd := nodess_at hns q hlt
    generalize ts[q] = u at *
    have hu0 := hv1
    obtain ⟨ku, nu, su, lsu, tsu, lau, lcu, tau, tcu, eu, rfl, hku, hnu, hsu, hllu, hltu, hLu, hTu⟩ := hv1.inv
    refine OpT.indexAddr Tryz.underlying31 Tryz.sizeOf33 rfl rfl ha1 (by first | omega | (simp only [lenOk] at *; omega)) ?_; refine Lands.v hh3 ?_
    refine OpT.loadA Tryz.isAgg33 (by exact Tryz.sizeOf33) rfl hrow ?_; refine Lands.ret (s := .a [.v (.int .u8 ku), .v (.int .i64 nu), .v (.string su), .v (.slice lau lsu.length lcu), .v (.slice tau tsu.length tcu)]) rfl rfl hh3 ?_
    intro g4 w4 e4 x4 z4 hh4; intro w5 m5 z5 hh5; replace m5 : Upd g4 w4 w5 := m5; have x5 : Ext w3 w5 := x4.upd m5 (by omega); have q5 := x5.size
    refine vDrw_mk [4, 7] (.one 0 (.one 1 (.one 2 (.one 3 (.one 6 (.one 4 (.one 5 (.one 7 (.one 8 .nil))))))))) rfl fun w6 x6 hh6 => ?_
    have y6 := x5.trans x6
    have hbi := binds_le k q
    refine vcZ (binds_runs k n s ls ts q _ w6 R ((hv0.upd y3 hR).ext y6)) hh6 fun w7 x7 z7 hh7 => And.intro x7 ?_
    refine vsd (by show inKind _ _; simp only [inKind]; omega) ?_
    have hg3 := b3.lt
    refine (ih1 _ (around + binds k q) g (max st (frees k (ts.take q) 0 around)) w7 R (hu0.ext (y6.trans x7)) hR hnd (by omega) (by omega) (b3.ext (y6.trans x7))).mono ?_
    rintro _ w8 ⟨rfl, b8, m8⟩
    have hh8 := hh7.mod m8 (fun i hi => by
      match i, hi with
      | 0, _ => intro e; have e : g1 = g := e; omega
      | 1, _ => intro e; have e : g4 = g := e; omega)
    refine Lands.v hh8 ?_
    refine Or.inl (And.intro (fun hx => nomatch (rfl).symm.trans hx) (fun _ => ?_))
    refine vsd (by show inKind _ _; simp only [inKind]; omega) ?_
    have e8 : max (max st (frees k (ts.take q) 0 around)) (free u (around + binds k q)) = (if k = 2 then (if n + 1 - around > st then n + 1 - around else st) else max st (frees k (ts.take (q + 1)) 0 around)) := by rw [if_neg hk2, hft]; omega
    rw [e8] at b8
    exact Exists.intro ((q + 1)) ⟨by omega, esub_over (by repeat (first | exact trivial | refine And.intro rfl ?_)) (by repeat (first | exact trivial | refine And.intro rfl ?_)), hsub_over (by repeat (first | exact trivial | refine And.intro rfl ?_)) (by repeat (first | exact trivial | refine And.intro rfl ?_)), (y3.trans (show Ext w3 w7 from y6.trans x7).toUpd).trans m8, hlt, b8⟩
  · obtain rfl : q = ts.length := by have := of_decide_eq_false h; omega
    rw [List.take_length] at b3
    refine ⟨rfl, ?_, y3⟩
    rw [hfree]
    have e : (if k = 2 then (if n + 1 - around > st then n + 1 - around else st) else max st (frees k ts 0 around)) = max st (if k = 2 then max 0 (n + 1 - around) else frees k ts 0 around) := by
      split
      · split <;> omega
      · rfl
    rw [← e]; exact b3
theorem _root_.Go.Proofs.Bw.Holds.add {ρ : List Nat} {H : Heap} {w : World} (h : Holds ρ H w) {g : Nat} {c : List SV} (hg : ∀ i, i < ρ.length → adr ρ i ≠ g) (hlt : g < w.heap.size) (hB : Box w g (concs ρ c)) (hc : wfs ρ.length c = true) : Holds (ρ ++ [g]) (H ++ [(ρ.length, c)]) w := by
  have hno : ∀ cs, hget H ρ.length ≠ some cs := fun cs hk => by have := (h.ok _ _ hk).1; omega
  refine ⟨fun k cs hk => ?_, fun i j hi hj hij => ?_, fun i hi => ?_, fun k cs hk => ?_⟩
  · rw [hget_app _ hno] at hk
    by_cases hkr : k = ρ.length
    · subst hkr
      rw [if_pos rfl] at hk; cases hk
      rw [adr_new, concs_app _ _ hc]; exact hB
    · rw [if_neg hkr] at hk
      obtain ⟨h1, h2⟩ := h.ok k cs hk
      rw [adr_app _ h1, concs_app _ _ h2]; exact h.box k cs hk
  · simp only [List.length_append, List.length_singleton] at hi hj
    by_cases hi' : i = ρ.length <;> by_cases hj' : j = ρ.length
    · omega
    · subst hi'
      rw [adr_new, adr_app _ (by omega)]; exact (hg j (by omega)).symm
    · subst hj'
      rw [adr_new, adr_app _ (by omega)]; exact hg i (by omega)
    · rw [adr_app _ (by omega), adr_app _ (by omega)]; exact h.ne i j (by omega) (by omega) hij
  · simp only [List.length_append, List.length_singleton] at hi
    by_cases hi' : i = ρ.length
    · subst hi'; rw [adr_new]; exact hlt
    · rw [adr_app _ (by omega)]; exact h.lt i (by omega)
  · rw [hget_app _ hno] at hk
    by_cases hkr : k = ρ.length
    · subst hkr
      rw [if_pos rfl] at hk; cases hk
      exact ⟨by simp, wfs_mono (by simp) _ hc⟩
    · rw [if_neg hkr] at hk
      obtain ⟨h1, h2⟩ := h.ok k cs hk
      exact ⟨by simp; omega, wfs_mono (by simp) _ h2⟩
theorem Holds.set1 {ρ : List Nat} {H : Heap} {w w' : World} {S : Nat → Prop} (h : Holds ρ H w) (hm : Bw.Mod S w w') {b : Nat} {c d : List SV} (hb : hget H b = some c) (hB : Box w' (adr ρ b) (concs ρ d)) (hd : wfs ρ.length d = true) (hS : ∀ i, i < ρ.length → i ≠ b → ¬ S (adr ρ i)) : Holds ρ (hset H b d) w' := by
  obtain ⟨hbl, _⟩ := h.ok b c hb
  refine ⟨fun k cs hk => ?_, h.ne, fun i hi => Nat.lt_of_lt_of_le (h.lt i hi) hm.size, fun k cs hk => ?_⟩
  · rw [hget_set hb] at hk
    by_cases hkb : k = b
    · subst hkb; rw [if_pos rfl] at hk; cases hk; exact hB
    · rw [if_neg hkb] at hk
      exact (h.box k cs hk).mod hm (hS k (h.ok k cs hk).1 hkb)
  · rw [hget_set hb] at hk
    by_cases hkb : k = b
    · subst hkb; rw [if_pos rfl] at hk; cases hk; exact ⟨hbl, hd⟩
    · rw [if_neg hkb] at hk; exact h.ok k cs hk
set_option maxRecDepth 20000 in
set_option maxHeartbeats 1000000 in
theorem may1_runs (t : T) : ∀ (cs : List Value) (deep : Int) (w0 : World) (R : Nat → Prop) (hv : VT w0 R cs t) (left : Int) (hb : (0 ≤ left ∧ left ≤ 65536) ∧ -4096 ≤ deep ∧ deep ≤ 4096) (gl gm : Nat)
    (bl : Box w0 gl [.int .i64 left]) (bm : Box w0 gm [.func (.func 137) #[] #[.pointer (some ⟨gl, 0, none⟩), .pointer (some ⟨gm, 0, none⟩)]]) (hne : gl ≠ gm) (off_gl : ¬ R gl) (off_gm : ¬ R gm),
    Runs Tryz.prog 137 #[.agg cs.toArray, .int .i64 deep, .pointer (some ⟨gl, 0, none⟩), .pointer (some ⟨gm, 0, none⟩)] w0 fun v w' => ∃ lf : Int, v = .bool (decide (0 ≤ mayF t left deep)) ∧ Box w' gl [.int .i64 lf] ∧ Upd gl w0 w' ∧
      (decide (0 ≤ mayF t left deep) = true → lf = mayF t left deep) ∧ -1 ≤ lf := by
  induction t using T.ind with
  | h k n s ls ts ih =>
  intro cs deep w0 R hv left hb gl gm bl bm hne off_gl off_gm
  have hv0 := hv
  obtain ⟨k, n, s, ls, ts, la, lc, ta, tc, he, rfl, hk, hn, hs, hll, hlt, hL, hT⟩ := hv.inv
  obtain ⟨⟩ := he
  have hgl := bl.lt
  have hgm := bm.lt
  have hh := Holds.add (Holds.one (g := gl) (cs := [.v (.int .i64 left)]) bl rfl) (g := gm) (c := [.f 137 [] [.v (.pointer (some ⟨gl, 0, none⟩)), .v (.pointer (some ⟨gm, 0, none⟩))]]) (fun i hi => by match i, hi with | 0, _ => exact hne) hgm bm rfl
  refine Runs.of_vc (ρ := [gl, gm]) cx_ok [0, 1, 2, 3, 4, 6, 8, 21, 23, 24, 25, 26, 34] [.a [.v (.int .u8 k), .v (.int .i64 n), .v (.string s), .v (.slice la ls.length lc), .v (.slice ta ts.length tc)], .v _, .p 0 0, .p 1 0] Tryz.func137 rfl rfl rfl hh ?_
  intro g1 w1 e1 x1 z1 hh1
  refine vsd (by show inKind _ _; simp only [inKind]; omega) ?_
  intro w2 m2 z2 hh2
  replace m2 : Upd gl w1 w2 := m2
  have y2 : Upd gl w0 w2 := x1.toUpd.trans m2
  refine Or.inl (Exists.intro (.bool (nodeB (.mk k n s ls ts))) (And.intro (fun _ => node_runs _ _ w2 _ (VT.upd hv0 y2 off_gl)) (fun w3 x3 hh3 => ?_)))
  have y3 : Upd gl w0 w3 := y2.trans (show Ext w2 w3 from x3).toUpd
  rw [mayF_mk]
  refine Or.inl (And.intro (fun h => ?_) (fun h => ?_))
  · simp only [sel_or, Bool.or_eq_true, Bool.not_eq_true', decide_eq_true_eq] at h
    rw [if_pos (by rcases h with (h | h) | h <;> simp [h])]
    exact ⟨left - 1, rfl, hh3.box 0 _ rfl, y3, fun h => absurd h (by decide), by omega⟩
  simp only [sel_or, Bool.or_eq_false_iff, Bool.not_eq_false', decide_eq_false_iff_not] at h
  obtain ⟨⟨h1, h2⟩, h3⟩ := h
  rw [if_neg (by rw [h3]; simp; omega)]
  have l3 := hlt.1
  have l4 := hlt.2
  refine vLoop_upd (σ := Nat × Int) [6, 8, 25, 26, 27, 28, 29, 30, 31, 32, 33, 34, 35] (fun q => [(25, .v (.int .i64 q.1))]) [0] (fun q => [(0, [.v (.int .i64 q.2)])]) (fun q w' => Upd gl w0 w' ∧ q.1 ≤ ts.length ∧ q.2 = maysF (ts.take q.1) (left - 1) (deep - 1) ∧ 0 ≤ q.2 ∧ q.2 ≤ left - 1) (fun q => ts.length - q.1) (0, left - 1) (fun _ => ⟨rfl, rfl⟩)
    ⟨(by repeat (first | exact trivial | refine And.intro rfl ?_)), (by repeat (first | exact trivial | refine And.intro rfl ?_)), (by repeat (first | exact trivial | refine And.intro rfl ?_)), (by repeat (first | exact trivial | refine And.intro rfl ?_)), y3, Nat.zero_le _, by simp [maysF_nil], by omega, by omega⟩ ?_
  rintro ⟨q, l⟩ w4 hh4 ⟨y4, hq, hl, hl0, hl1⟩
  simp only at hq hl hl0 hl1
  refine Or.inl (And.intro (fun h => ?_) (fun h => ?_))
  · have hlt : q < ts.length := by have := of_decide_eq_true h; simp only at this; omega
    obtain ⟨a1, cs1, ha1, -, hrow, hv1⟩ := (hT.upd y4 off_gl).at hlt
    have hstep := maysF_step ts q hlt (left - 1) (deep - 1) (by omega) (by rw [← hl]; exact hl0)
    have hneg := mayF_neg ts[q] l (deep - 1)
    have ih1 := ih ts[q] (List.getElem_mem hlt)
    generalize ts[q] = u at *
    have hu0 := hv1
    obtain ⟨ku, nu, su, lsu, tsu, lau, lcu, tau, tcu, eu, rfl, hku, hnu, hsu, hllu, hltu, hLu, hTu⟩ := hv1.inv
    refine OpT.indexAddr Tryz.underlying31 Tryz.sizeOf33 rfl rfl ha1 (by first | omega | (simp only [lenOk] at *; omega)) ?_; refine Lands.v hh4 ?_
    refine OpT.loadA Tryz.isAgg33 (by exact Tryz.sizeOf33) rfl hrow ?_; refine Lands.ret (s := .a [.v (.int .u8 ku), .v (.int .i64 nu), .v (.string su), .v (.slice lau lsu.length lcu), .v (.slice tau tsu.length tcu)]) rfl rfl hh4 ?_
    intro g5 w5 e5 x5 z5 hh5; intro w6 m6 z6 hh6; replace m6 : Upd g5 w5 w6 := m6; have x6 : Ext w4 w6 := x5.upd m6 (by omega); have q6 := x6.size
    refine vsd (by show inKind _ _; simp only [inKind]; omega) ?_
    refine (ih1 _ (deep - 1) w6 R (VT.ext hu0 x6) l (by omega) gl gm (hh6.box 0 _ rfl) (hh6.box 1 _ rfl) hne off_gl off_gm).mono ?_
    rintro _ w7 ⟨lf, rfl, b7, m7, hlf, hlf1⟩
    have hh7 := Holds.set1 hh6 (m7 : Bw.Mod (fun k => k = gl) w6 w7) (b := 0) (c := [.v (.int .i64 l)]) (d := [.v (.int .i64 lf)]) rfl b7 rfl fun i hi hne0 e => by
      have hg1 := hh6.ne i 0 hi (by simp) hne0
      exact hg1 e
    refine Lands.v hh7 ?_
    rw [← hl] at hstep
    have y7 : Upd gl w0 w7 := (y4.trans (show Ext w4 w6 from x6).toUpd).trans m7
    generalize mayF u l (deep - 1) = r at *
    refine Or.inl (And.intro (fun h => ?_) (fun h => ?_))
    · have hr : ¬ 0 ≤ r := by simpa using h
      rw [hstep.2 (by omega)]
      exact ⟨lf, rfl, hh7.box 0 _ rfl, y7, fun h => absurd h (by decide), hlf1⟩
    · have hr : 0 ≤ r := by simpa using h
      have er := hlf (decide_eq_true hr)
      subst er
      refine vsd (by show inKind _ _; simp only [inKind]; omega) ?_
      exact Exists.intro ((q + 1, lf)) ⟨by simp only; omega, esub_over (by repeat (first | exact trivial | refine And.intro rfl ?_)) (by repeat (first | exact trivial | refine And.intro rfl ?_)), hsub_over (by repeat (first | exact trivial | refine And.intro rfl ?_)) (by repeat (first | exact trivial | refine And.intro rfl ?_)), y7, by omega, (hstep.1 hr).symm, hr, by omega⟩
  · obtain rfl : q = ts.length := by have := of_decide_eq_false h; simp only at this; omega
    rw [List.take_length] at hl
    rw [← hl, decide_eq_true hl0]
    exact ⟨l, rfl, hh4.box 0 _ rfl, y4, fun _ => rfl, by omega⟩
theorem may_runs (t : T) (cs : List Value) (w0 : World) (R : Nat → Prop) (hv : VT w0 R cs t) : Runs Tryz.prog 107 #[.agg cs.toArray] w0 fun v w' => v = .bool (mayT t) ∧ Ext w0 w' := by
  have hv0 := hv.small
  obtain ⟨k, n, s, ls, ts, la, lc, ta, tc, he, rfl, hk, hn, hs, hll, hlt, hL, hT⟩ := hv.inv
  refine Runs.of_vc (ρ := []) cx_ok [0, 1, 2, 3, 4] [.a [.v (.int .u8 k), .v (.int .i64 n), .v (.string s), .v (.slice la ls.length lc), .v (.slice ta ts.length tc)]] Tryz.func107 rfl rfl rfl (Holds.nil w0) ?_
  intro g1 w1 e1 x1 z1 hh1
  intro g2 w2 e2 x2 z2 hh2
  intro w3 m3 z3 hh3
  replace m3 : Upd g2 w2 w3 := m3
  intro g4 w4 e4 x4 z4 hh4
  intro w5 m5 z5 hh5
  replace m5 : Upd g4 w4 w5 := m5
  have q3 := m3.size
  have y3 : Ext w0 w3 := (x1.trans x2).upd m3 (by omega)
  have y5 : Ext w0 w5 := (y3.trans x4).upd m5 (by omega)
  refine (may1_runs t _ 4096 w5 _ (hv0.ext y5) 65536 (by omega) g2 g4 (hh5.box 1 _ rfl) (hh5.box 2 _ rfl) (by omega) (fun h => by have := h.2; omega) (fun h => by have := h.2; omega)).mono ?_
  rintro _ w6 ⟨lf, rfl, b6, m6, -, -⟩
  have hh6 := Holds.set1 hh5 (m6 : Bw.Mod (fun k => k = g2) w5 w6) (b := 1) (c := [.v (.int .i64 65536)]) (d := [.v (.int .i64 lf)]) rfl b6 rfl fun i hi hne e => by
    match i, hi with
    | 0, _ => have e : g1 = g2 := e; omega
    | 1, _ => exact hne rfl
    | 2, _ => have e : g4 = g2 := e; omega
  refine Lands.v hh6 ?_
  exact ⟨congrArg Value.bool (mayF_T t), y5.upd m6 (by omega)⟩
theorem free_runs (t : T) (cs : List Value) (w0 : World) (R : Nat → Prop) (hv : VT w0 R cs t) : Runs Tryz.prog 124 #[.agg cs.toArray] w0 fun v w' => v = .int .i64 (bif mayT t then max 0 (free t 0) else 0) ∧ Ext w0 w' := by
  have hv0 := hv.small
  obtain ⟨k, n, s, ls, ts, la, lc, ta, tc, he, rfl, hk, hn, hs, hll, hlt, hL, hT⟩ := hv.inv
  refine Runs.of_vc (ρ := []) cx_ok [0, 1, 2, 5] [.a [.v (.int .u8 k), .v (.int .i64 n), .v (.string s), .v (.slice la ls.length lc), .v (.slice ta ts.length tc)]] Tryz.func124 rfl rfl rfl (Holds.nil w0) ?_
  intro g1 w1 e1 x1 z1 hh1
  intro g2 w2 e2 x2 z2 hh2
  have y2 := x1.trans x2
  refine vcZ (may_runs t _ w2 _ (hv0.ext y2)) hh2 fun w3 x3 z3 hh3 => ?_
  have y3 := y2.trans x3
  cases hm : mayT t with
  | false =>
    refine Or.inl (And.intro (fun _ => ?_) (fun hx => nomatch (rfl).symm.trans hx))
    intro w4 m4 z4 hh4
    replace m4 : Upd g2 w3 w4 := m4
    exact ⟨rfl, y3.upd m4 (by omega)⟩
  | true =>
    refine Or.inl (And.intro (fun hx => nomatch (rfl).symm.trans hx) (fun _ => ?_))
    have hd := may_depth hm
    refine (eachF_runs t _ 0 g2 0 w3 _ (hv0.ext y3) (fun h => by have := h.2; omega) (may_nodes hm) (by omega) (by omega) (hh3.box 1 _ rfl)).mono ?_
    rintro _ w4 ⟨rfl, b4, m4⟩
    have hh4 := Holds.set1 hh3 (m4 : Bw.Mod (fun k => k = g2) w3 w4) (b := 1) (c := [.v (.int .i64 0)]) (d := [.v (.int .i64 (max 0 (free t 0)))]) rfl b4 rfl fun i hi hne e => by
      match i, hi with
      | 0, _ => have e : g1 = g2 := e; omega
      | 1, _ => exact hne rfl
    refine Lands.v hh4 ?_
    intro w5 m5 z5 hh5
    replace m5 : Upd g2 w4 w5 := m5
    exact ⟨rfl, (y3.upd m4 (by omega)).upd m5 (by omega)⟩
end Go.Proofs.YtfljbnhhkdaobaaGreat

/-
  What functions of the program compute, step by step (printed by a program of this work), part 2.
-/
namespace Go.Proofs.YtfljbnhhkdaobaaGreat
open Go Go.RowKit Go.Proofs.Bw
set_option linter.unusedVariables false
set_option linter.unusedSimpArgs false
end Go.Proofs.YtfljbnhhkdaobaaGreat

/-
  The functions of terms: all stand in the parts before.
-/
