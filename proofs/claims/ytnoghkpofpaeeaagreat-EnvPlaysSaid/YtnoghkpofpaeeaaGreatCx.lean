/-
  The types and functions of this seat, as the conditions of code know them (printed by a program of this work).
-/
import Derived.Test.YtnoghkpofpaeeaaGreatUse
import Derived.Test.YtnoghkpofpaeeaaGreatProg
import Derived.WalkKit
namespace Go.Proofs.YtnoghkpofpaeeaaGreat
open Go Go.RowKit Go.Proofs.Bw

noncomputable def tab : Tab := [(3, ⟨false, 1, [.int .i64 0], .int .i64⟩),
  (4, ⟨false, 1, [.bool false], .bool⟩),
  (5, ⟨false, 1, [.int .u8 0], .int .u8⟩),
  (9, ⟨false, 1, [.string ⟨#[]⟩], .str⟩),
  (20, ⟨false, 1, [.nilIface], .other⟩),
  (22, ⟨false, 1, [.slice none 0 0], .slice 46 25⟩),
  (23, ⟨false, 1, [.slice none 0 0], .slice 5 1⟩),
  (24, ⟨false, 1, [.slice none 0 0], .slice 69 5⟩),
  (25, ⟨false, 1, [.slice none 0 0], .slice 27 5⟩),
  (27, ⟨true, 5, [.int .u8 0, .int .i64 0, .string ⟨#[]⟩, .slice none 0 0, .slice none 0 0], .struct [⟨0, 1, false⟩, ⟨1, 1, false⟩, ⟨2, 1, false⟩, ⟨3, 1, false⟩, ⟨4, 1, false⟩]⟩),
  (29, ⟨false, 1, [.nilFunc], .other⟩),
  (31, ⟨false, 1, [.pointer none], .ptr⟩),
  (33, ⟨false, 1, [.pointer none], .ptr⟩),
  (35, ⟨true, 1, [.slice none 0 0], .struct [⟨0, 1, false⟩]⟩),
  (36, ⟨false, 1, [.slice none 0 0], .slice 9 1⟩),
  (38, ⟨false, 1, [.int .i64 0], .int .i64⟩),
  (44, ⟨false, 1, [.slice none 0 0], .slice 56 7⟩),
  (46, ⟨true, 25, [.int .u8 0, .string ⟨#[]⟩, .int .i64 0, .int .u8 0, .int .i64 0, .string ⟨#[]⟩, .slice none 0 0, .slice none 0 0, .int .u8 0, .int .i64 0, .string ⟨#[]⟩, .slice none 0 0, .slice none 0 0, .int .i64 0, .string ⟨#[]⟩, .string ⟨#[]⟩, .int .i64 0, .int .i64 0, .int .i64 0, .int .i64 0, .int .i64 0, .int .i64 0, .slice none 0 0, .int .i64 0, .bool false], .struct [⟨0, 1, false⟩, ⟨1, 1, false⟩, ⟨2, 1, false⟩, ⟨3, 5, true⟩, ⟨8, 5, true⟩, ⟨13, 1, false⟩, ⟨14, 1, false⟩, ⟨15, 1, false⟩, ⟨16, 1, false⟩, ⟨17, 1, false⟩, ⟨18, 1, false⟩, ⟨19, 1, false⟩, ⟨20, 1, false⟩, ⟨21, 1, false⟩, ⟨22, 1, false⟩, ⟨23, 1, false⟩, ⟨24, 1, false⟩]⟩),
  (56, ⟨true, 7, [.string ⟨#[]⟩, .int .i64 0, .int .u8 0, .int .i64 0, .string ⟨#[]⟩, .slice none 0 0, .slice none 0 0], .struct [⟨0, 1, false⟩, ⟨1, 1, false⟩, ⟨2, 5, true⟩]⟩),
  (59, ⟨false, 1, [.map none], .other⟩),
  (61, ⟨true, 2, [.map none, .slice none 0 0], .struct [⟨0, 1, false⟩, ⟨1, 1, false⟩]⟩),
  (67, ⟨true, 4, [.int .i64 0, .int .i64 0, .int .i64 0, .int .i64 0], .arr 4 3 1 false⟩),
  (69, ⟨true, 5, [.int .i64 0, .int .i64 0, .int .i64 0, .int .i64 0, .int .i64 0], .struct [⟨0, 1, false⟩, ⟨1, 4, true⟩]⟩),
  (77, ⟨false, 1, [.nilFunc], .other⟩),
  (78, ⟨false, 1, [.nilFunc], .other⟩),
  (84, ⟨false, 1, [.nilFunc], .other⟩),
  (86, ⟨false, 1, [.nilFunc], .other⟩),
  (87, ⟨false, 1, [.nilFunc], .other⟩),
  (92, ⟨false, 1, [.slice none 0 0], .slice 3 1⟩),
  (94, ⟨false, 1, [.nilFunc], .other⟩),
  (100, ⟨false, 1, [.nilFunc], .other⟩),
  (103, ⟨false, 1, [.int .u64 0], .int .u64⟩),
  (117, ⟨false, 1, [.int .i64 0], .int .i64⟩),
  (125, ⟨false, 1, [.int .u32 0], .int .u32⟩),
  (127, ⟨false, 1, [.int .u64 0], .int .u64⟩),
  (132, ⟨false, 1, [.int .u64 0], .int .u64⟩),
  (136, ⟨false, 1, [.pointer none], .ptr⟩)]

noncomputable def cx : Cx := ⟨Tryz.prog, tab, [3, 4, 5, 6, 7, 8, 9, 10, 11, 12, 13, 14, 15, 16, 17, 18, 19, 20, 21, 22, 23, 24, 25, 26, 27, 28, 29, 30, 31, 32, 33, 34, 35, 36, 37, 38, 39, 41, 42, 43, 44, 45, 46, 47, 48, 49, 50, 51, 52, 53, 54, 55, 56, 57, 58, 59, 60, 61, 62, 63, 64, 65, 66, 67, 68, 69, 70, 71, 72, 73, 74, 75, 76, 77, 78, 79, 80, 81, 82, 83, 84, 85, 86, 87, 88, 89, 90, 91, 92, 93, 94, 95, 96, 97, 98, 99, 100, 101, 102, 103, 104, 105, 106, 107, 108, 109, 110, 111, 112, 113, 114, 115, 116, 117, 118, 119, 120, 121, 122, 123, 124, 125]⟩

theorem mixed : Tryz.prog.follows .mixedOrders = true := by kernel_rfl

set_option maxRecDepth 20000 in
theorem tab_ok : TabOk Tryz.prog tab := ⟨⟨Tryz.isAgg3, Tryz.sizeOf3, ⟨_, Tryz.zeroValue3, rfl⟩, Tryz.underlying3⟩,
  ⟨Tryz.isAgg4, Tryz.sizeOf4, ⟨_, Tryz.zeroValue4, rfl⟩, Tryz.underlying4⟩,
  ⟨Tryz.isAgg5, Tryz.sizeOf5, ⟨_, Tryz.zeroValue5, rfl⟩, Tryz.underlying5⟩,
  ⟨Tryz.isAgg9, Tryz.sizeOf9, ⟨_, Tryz.zeroValue9, rfl⟩, Tryz.underlying9⟩,
  ⟨Tryz.isAgg20, Tryz.sizeOf20, ⟨_, Tryz.zeroValue20, rfl⟩, trivial⟩,
  ⟨Tryz.isAgg22, Tryz.sizeOf22, ⟨_, Tryz.zeroValue22, rfl⟩, ⟨Tryz.underlying22, Tryz.sizeOf46⟩⟩,
  ⟨Tryz.isAgg23, Tryz.sizeOf23, ⟨_, Tryz.zeroValue23, rfl⟩, ⟨Tryz.underlying23, Tryz.sizeOf5⟩⟩,
  ⟨Tryz.isAgg24, Tryz.sizeOf24, ⟨_, Tryz.zeroValue24, rfl⟩, ⟨Tryz.underlying24, Tryz.sizeOf69⟩⟩,
  ⟨Tryz.isAgg25, Tryz.sizeOf25, ⟨_, Tryz.zeroValue25, rfl⟩, ⟨Tryz.underlying25, Tryz.sizeOf27⟩⟩,
  ⟨Tryz.isAgg27, Tryz.sizeOf27, ⟨_, Tryz.zeroValue27, rfl⟩, ⟨_, Tryz.underlying27, ⟨rfl, Tryz.sizeOf5, Tryz.isAgg5, rfl, Tryz.sizeOf3, Tryz.isAgg3, rfl, Tryz.sizeOf9, Tryz.isAgg9, rfl, Tryz.sizeOf24, Tryz.isAgg24, rfl, Tryz.sizeOf25, Tryz.isAgg25, trivial⟩⟩⟩,
  ⟨Tryz.isAgg29, Tryz.sizeOf29, ⟨_, Tryz.zeroValue29, rfl⟩, trivial⟩,
  ⟨Tryz.isAgg31, Tryz.sizeOf31, ⟨_, Tryz.zeroValue31, rfl⟩, ⟨_, Tryz.underlying31⟩⟩,
  ⟨Tryz.isAgg33, Tryz.sizeOf33, ⟨_, Tryz.zeroValue33, rfl⟩, ⟨_, Tryz.underlying33⟩⟩,
  ⟨Tryz.isAgg35, Tryz.sizeOf35, ⟨_, Tryz.zeroValue35, rfl⟩, ⟨_, Tryz.underlying35, ⟨rfl, Tryz.sizeOf22, Tryz.isAgg22, trivial⟩⟩⟩,
  ⟨Tryz.isAgg36, Tryz.sizeOf36, ⟨_, Tryz.zeroValue36, rfl⟩, ⟨Tryz.underlying36, Tryz.sizeOf9⟩⟩,
  ⟨Tryz.isAgg38, Tryz.sizeOf38, ⟨_, Tryz.zeroValue38, rfl⟩, Tryz.underlying38⟩,
  ⟨Tryz.isAgg44, Tryz.sizeOf44, ⟨_, Tryz.zeroValue44, rfl⟩, ⟨Tryz.underlying44, Tryz.sizeOf56⟩⟩,
  ⟨Tryz.isAgg46, Tryz.sizeOf46, ⟨_, Tryz.zeroValue46, rfl⟩, ⟨_, Tryz.underlying46, ⟨rfl, Tryz.sizeOf5, Tryz.isAgg5, rfl, Tryz.sizeOf9, Tryz.isAgg9, rfl, Tryz.sizeOf3, Tryz.isAgg3, rfl, Tryz.sizeOf27, Tryz.isAgg27, rfl, Tryz.sizeOf27, Tryz.isAgg27, rfl, Tryz.sizeOf3, Tryz.isAgg3, rfl, Tryz.sizeOf9, Tryz.isAgg9, rfl, Tryz.sizeOf9, Tryz.isAgg9, rfl, Tryz.sizeOf3, Tryz.isAgg3, rfl, Tryz.sizeOf3, Tryz.isAgg3, rfl, Tryz.sizeOf3, Tryz.isAgg3, rfl, Tryz.sizeOf3, Tryz.isAgg3, rfl, Tryz.sizeOf3, Tryz.isAgg3, rfl, Tryz.sizeOf3, Tryz.isAgg3, rfl, Tryz.sizeOf44, Tryz.isAgg44, rfl, Tryz.sizeOf3, Tryz.isAgg3, rfl, Tryz.sizeOf4, Tryz.isAgg4, trivial⟩⟩⟩,
  ⟨Tryz.isAgg56, Tryz.sizeOf56, ⟨_, Tryz.zeroValue56, rfl⟩, ⟨_, Tryz.underlying56, ⟨rfl, Tryz.sizeOf9, Tryz.isAgg9, rfl, Tryz.sizeOf3, Tryz.isAgg3, rfl, Tryz.sizeOf27, Tryz.isAgg27, trivial⟩⟩⟩,
  ⟨Tryz.isAgg59, Tryz.sizeOf59, ⟨_, Tryz.zeroValue59, rfl⟩, trivial⟩,
  ⟨Tryz.isAgg61, Tryz.sizeOf61, ⟨_, Tryz.zeroValue61, rfl⟩, ⟨_, Tryz.underlying61, ⟨rfl, Tryz.sizeOf59, Tryz.isAgg59, rfl, Tryz.sizeOf36, Tryz.isAgg36, trivial⟩⟩⟩,
  ⟨Tryz.isAgg67, Tryz.sizeOf67, ⟨_, Tryz.zeroValue67, rfl⟩, ⟨Tryz.underlying67, Tryz.sizeOf3, Tryz.isAgg3⟩⟩,
  ⟨Tryz.isAgg69, Tryz.sizeOf69, ⟨_, Tryz.zeroValue69, rfl⟩, ⟨_, Tryz.underlying69, ⟨rfl, Tryz.sizeOf3, Tryz.isAgg3, rfl, Tryz.sizeOf67, Tryz.isAgg67, trivial⟩⟩⟩,
  ⟨Tryz.isAgg77, Tryz.sizeOf77, ⟨_, Tryz.zeroValue77, rfl⟩, trivial⟩,
  ⟨Tryz.isAgg78, Tryz.sizeOf78, ⟨_, Tryz.zeroValue78, rfl⟩, trivial⟩,
  ⟨Tryz.isAgg84, Tryz.sizeOf84, ⟨_, Tryz.zeroValue84, rfl⟩, trivial⟩,
  ⟨Tryz.isAgg86, Tryz.sizeOf86, ⟨_, Tryz.zeroValue86, rfl⟩, trivial⟩,
  ⟨Tryz.isAgg87, Tryz.sizeOf87, ⟨_, Tryz.zeroValue87, rfl⟩, trivial⟩,
  ⟨Tryz.isAgg92, Tryz.sizeOf92, ⟨_, Tryz.zeroValue92, rfl⟩, ⟨Tryz.underlying92, Tryz.sizeOf3⟩⟩,
  ⟨Tryz.isAgg94, Tryz.sizeOf94, ⟨_, Tryz.zeroValue94, rfl⟩, trivial⟩,
  ⟨Tryz.isAgg100, Tryz.sizeOf100, ⟨_, Tryz.zeroValue100, rfl⟩, trivial⟩,
  ⟨Tryz.isAgg103, Tryz.sizeOf103, ⟨_, Tryz.zeroValue103, rfl⟩, Tryz.underlying103⟩,
  ⟨Tryz.isAgg117, Tryz.sizeOf117, ⟨_, Tryz.zeroValue117, rfl⟩, Tryz.underlying117⟩,
  ⟨Tryz.isAgg125, Tryz.sizeOf125, ⟨_, Tryz.zeroValue125, rfl⟩, Tryz.underlying125⟩,
  ⟨Tryz.isAgg127, Tryz.sizeOf127, ⟨_, Tryz.zeroValue127, rfl⟩, Tryz.underlying127⟩,
  ⟨Tryz.isAgg132, Tryz.sizeOf132, ⟨_, Tryz.zeroValue132, rfl⟩, Tryz.underlying132⟩,
  ⟨Tryz.isAgg136, Tryz.sizeOf136, ⟨_, Tryz.zeroValue136, rfl⟩, ⟨_, Tryz.underlying136⟩⟩, trivial⟩

theorem cx_ok : cx.Ok := ⟨tab_ok, ⟨Tryz.call3, Tryz.call4, Tryz.call5, Tryz.call6, Tryz.call7, Tryz.call8, Tryz.call9, Tryz.call10, Tryz.call11, Tryz.call12, Tryz.call13, Tryz.call14, Tryz.call15, Tryz.call16, Tryz.call17, Tryz.call18, Tryz.call19, Tryz.call20, Tryz.call21, Tryz.call22, Tryz.call23, Tryz.call24, Tryz.call25, Tryz.call26, Tryz.call27, Tryz.call28, Tryz.call29, Tryz.call30, Tryz.call31, Tryz.call32, Tryz.call33, Tryz.call34, Tryz.call35, Tryz.call36, Tryz.call37, Tryz.call38, Tryz.call39, Tryz.call41, Tryz.call42, Tryz.call43, Tryz.call44, Tryz.call45, Tryz.call46, Tryz.call47, Tryz.call48, Tryz.call49, Tryz.call50, Tryz.call51, Tryz.call52, Tryz.call53, Tryz.call54, Tryz.call55, Tryz.call56, Tryz.call57, Tryz.call58, Tryz.call59, Tryz.call60, Tryz.call61, Tryz.call62, Tryz.call63, Tryz.call64, Tryz.call65, Tryz.call66, Tryz.call67, Tryz.call68, Tryz.call69, Tryz.call70, Tryz.call71, Tryz.call72, Tryz.call73, Tryz.call74, Tryz.call75, Tryz.call76, Tryz.call77, Tryz.call78, Tryz.call79, Tryz.call80, Tryz.call81, Tryz.call82, Tryz.call83, Tryz.call84, Tryz.call85, Tryz.call86, Tryz.call87, Tryz.call88, Tryz.call89, Tryz.call90, Tryz.call91, Tryz.call92, Tryz.call93, Tryz.call94, Tryz.call95, Tryz.call96, Tryz.call97, Tryz.call98, Tryz.call99, Tryz.call100, Tryz.call101, Tryz.call102, Tryz.call103, Tryz.call104, Tryz.call105, Tryz.call106, Tryz.call107, Tryz.call108, Tryz.call109, Tryz.call110, Tryz.call111, Tryz.call112, Tryz.call113, Tryz.call114, Tryz.call115, Tryz.call116, Tryz.call117, Tryz.call118, Tryz.call119, Tryz.call120, Tryz.call121, Tryz.call122, Tryz.call123, Tryz.call124, Tryz.call125, trivial⟩, mixed⟩

end Go.Proofs.YtnoghkpofpaeeaaGreat

