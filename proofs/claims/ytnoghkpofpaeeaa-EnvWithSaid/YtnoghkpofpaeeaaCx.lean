/-
  The types and functions of this seat, as the conditions of code know them (printed by a program of this work).
-/
import Derived.Test.YtnoghkpofpaeeaaUse
import Derived.Test.YtnoghkpofpaeeaaProg
import Derived.WalkKit
namespace Go.Proofs.Ytnoghkpofpaeeaa
open Go Go.RowKit Go.Proofs.Bw

noncomputable def tab : Tab := [(3, ⟨false, 1, [.int .i64 0], .int .i64⟩),
  (4, ⟨false, 1, [.bool false], .bool⟩),
  (5, ⟨false, 1, [.int .u8 0], .int .u8⟩),
  (9, ⟨false, 1, [.string ⟨#[]⟩], .str⟩),
  (20, ⟨false, 1, [.nilIface], .other⟩),
  (22, ⟨false, 1, [.slice none 0 0], .slice 35 25⟩),
  (25, ⟨false, 1, [.pointer none], .ptr⟩),
  (27, ⟨false, 1, [.int .i64 0], .int .i64⟩),
  (29, ⟨false, 1, [.slice none 0 0], .slice 48 5⟩),
  (30, ⟨false, 1, [.slice none 0 0], .slice 32 5⟩),
  (32, ⟨true, 5, [.int .u8 0, .int .i64 0, .string ⟨#[]⟩, .slice none 0 0, .slice none 0 0], .struct [⟨0, 1, false⟩, ⟨1, 1, false⟩, ⟨2, 1, false⟩, ⟨3, 1, false⟩, ⟨4, 1, false⟩]⟩),
  (33, ⟨false, 1, [.slice none 0 0], .slice 58 7⟩),
  (35, ⟨true, 25, [.int .u8 0, .string ⟨#[]⟩, .int .i64 0, .int .u8 0, .int .i64 0, .string ⟨#[]⟩, .slice none 0 0, .slice none 0 0, .int .u8 0, .int .i64 0, .string ⟨#[]⟩, .slice none 0 0, .slice none 0 0, .int .i64 0, .string ⟨#[]⟩, .string ⟨#[]⟩, .int .i64 0, .int .i64 0, .int .i64 0, .int .i64 0, .int .i64 0, .int .i64 0, .slice none 0 0, .int .i64 0, .bool false], .struct [⟨0, 1, false⟩, ⟨1, 1, false⟩, ⟨2, 1, false⟩, ⟨3, 5, true⟩, ⟨8, 5, true⟩, ⟨13, 1, false⟩, ⟨14, 1, false⟩, ⟨15, 1, false⟩, ⟨16, 1, false⟩, ⟨17, 1, false⟩, ⟨18, 1, false⟩, ⟨19, 1, false⟩, ⟨20, 1, false⟩, ⟨21, 1, false⟩, ⟨22, 1, false⟩, ⟨23, 1, false⟩, ⟨24, 1, false⟩]⟩),
  (39, ⟨false, 1, [.slice none 0 0], .slice 9 1⟩),
  (46, ⟨true, 4, [.int .i64 0, .int .i64 0, .int .i64 0, .int .i64 0], .arr 4 3 1 false⟩),
  (48, ⟨true, 5, [.int .i64 0, .int .i64 0, .int .i64 0, .int .i64 0, .int .i64 0], .struct [⟨0, 1, false⟩, ⟨1, 4, true⟩]⟩),
  (53, ⟨false, 1, [.nilFunc], .other⟩),
  (58, ⟨true, 7, [.string ⟨#[]⟩, .int .i64 0, .int .u8 0, .int .i64 0, .string ⟨#[]⟩, .slice none 0 0, .slice none 0 0], .struct [⟨0, 1, false⟩, ⟨1, 1, false⟩, ⟨2, 5, true⟩]⟩),
  (59, ⟨false, 1, [.map none], .other⟩),
  (61, ⟨true, 2, [.map none, .slice none 0 0], .struct [⟨0, 1, false⟩, ⟨1, 1, false⟩]⟩),
  (73, ⟨false, 1, [.nilFunc], .other⟩),
  (74, ⟨false, 1, [.nilFunc], .other⟩),
  (80, ⟨false, 1, [.nilFunc], .other⟩),
  (82, ⟨false, 1, [.nilFunc], .other⟩),
  (84, ⟨false, 1, [.nilFunc], .other⟩),
  (87, ⟨false, 1, [.slice none 0 0], .slice 5 1⟩),
  (89, ⟨false, 1, [.slice none 0 0], .slice 3 1⟩),
  (91, ⟨false, 1, [.nilFunc], .other⟩),
  (95, ⟨false, 1, [.int .u64 0], .int .u64⟩),
  (103, ⟨false, 1, [.nilFunc], .other⟩),
  (105, ⟨false, 1, [.int .i64 0], .int .i64⟩),
  (113, ⟨false, 1, [.int .u32 0], .int .u32⟩),
  (115, ⟨false, 1, [.int .u64 0], .int .u64⟩),
  (125, ⟨false, 1, [.int .u64 0], .int .u64⟩),
  (129, ⟨false, 1, [.pointer none], .ptr⟩)]

noncomputable def cx : Cx := ⟨Try.prog, tab, [3, 4, 5, 6, 7, 8, 9, 10, 11, 12, 13, 14, 15, 16, 17, 18, 19, 20, 21, 22, 23, 24, 25, 26, 27, 28, 29, 30, 31, 32, 33, 34, 35, 36, 37, 38, 39, 40, 41, 42, 43, 44, 45, 46, 47, 48, 49, 51, 52, 53, 54, 55, 56, 57, 58, 59, 60, 61, 62, 63, 64, 65, 66, 67, 68, 69, 70, 71, 72, 73, 74, 75, 76, 77, 78, 79, 80, 81, 82, 83, 84, 85, 86, 87, 88, 89, 90, 91, 92, 93, 94, 95, 96, 97, 98]⟩

theorem mixed : Try.prog.follows .mixedOrders = true := by kernel_rfl

set_option maxRecDepth 20000 in
theorem tab_ok : TabOk Try.prog tab := ⟨⟨Try.isAgg3, Try.sizeOf3, ⟨_, Try.zeroValue3, rfl⟩, Try.underlying3⟩,
  ⟨Try.isAgg4, Try.sizeOf4, ⟨_, Try.zeroValue4, rfl⟩, Try.underlying4⟩,
  ⟨Try.isAgg5, Try.sizeOf5, ⟨_, Try.zeroValue5, rfl⟩, Try.underlying5⟩,
  ⟨Try.isAgg9, Try.sizeOf9, ⟨_, Try.zeroValue9, rfl⟩, Try.underlying9⟩,
  ⟨Try.isAgg20, Try.sizeOf20, ⟨_, Try.zeroValue20, rfl⟩, trivial⟩,
  ⟨Try.isAgg22, Try.sizeOf22, ⟨_, Try.zeroValue22, rfl⟩, ⟨Try.underlying22, Try.sizeOf35⟩⟩,
  ⟨Try.isAgg25, Try.sizeOf25, ⟨_, Try.zeroValue25, rfl⟩, ⟨_, Try.underlying25⟩⟩,
  ⟨Try.isAgg27, Try.sizeOf27, ⟨_, Try.zeroValue27, rfl⟩, Try.underlying27⟩,
  ⟨Try.isAgg29, Try.sizeOf29, ⟨_, Try.zeroValue29, rfl⟩, ⟨Try.underlying29, Try.sizeOf48⟩⟩,
  ⟨Try.isAgg30, Try.sizeOf30, ⟨_, Try.zeroValue30, rfl⟩, ⟨Try.underlying30, Try.sizeOf32⟩⟩,
  ⟨Try.isAgg32, Try.sizeOf32, ⟨_, Try.zeroValue32, rfl⟩, ⟨_, Try.underlying32, ⟨rfl, Try.sizeOf5, Try.isAgg5, rfl, Try.sizeOf3, Try.isAgg3, rfl, Try.sizeOf9, Try.isAgg9, rfl, Try.sizeOf29, Try.isAgg29, rfl, Try.sizeOf30, Try.isAgg30, trivial⟩⟩⟩,
  ⟨Try.isAgg33, Try.sizeOf33, ⟨_, Try.zeroValue33, rfl⟩, ⟨Try.underlying33, Try.sizeOf58⟩⟩,
  ⟨Try.isAgg35, Try.sizeOf35, ⟨_, Try.zeroValue35, rfl⟩, ⟨_, Try.underlying35, ⟨rfl, Try.sizeOf5, Try.isAgg5, rfl, Try.sizeOf9, Try.isAgg9, rfl, Try.sizeOf3, Try.isAgg3, rfl, Try.sizeOf32, Try.isAgg32, rfl, Try.sizeOf32, Try.isAgg32, rfl, Try.sizeOf3, Try.isAgg3, rfl, Try.sizeOf9, Try.isAgg9, rfl, Try.sizeOf9, Try.isAgg9, rfl, Try.sizeOf3, Try.isAgg3, rfl, Try.sizeOf3, Try.isAgg3, rfl, Try.sizeOf3, Try.isAgg3, rfl, Try.sizeOf3, Try.isAgg3, rfl, Try.sizeOf3, Try.isAgg3, rfl, Try.sizeOf3, Try.isAgg3, rfl, Try.sizeOf33, Try.isAgg33, rfl, Try.sizeOf3, Try.isAgg3, rfl, Try.sizeOf4, Try.isAgg4, trivial⟩⟩⟩,
  ⟨Try.isAgg39, Try.sizeOf39, ⟨_, Try.zeroValue39, rfl⟩, ⟨Try.underlying39, Try.sizeOf9⟩⟩,
  ⟨Try.isAgg46, Try.sizeOf46, ⟨_, Try.zeroValue46, rfl⟩, ⟨Try.underlying46, Try.sizeOf3, Try.isAgg3⟩⟩,
  ⟨Try.isAgg48, Try.sizeOf48, ⟨_, Try.zeroValue48, rfl⟩, ⟨_, Try.underlying48, ⟨rfl, Try.sizeOf3, Try.isAgg3, rfl, Try.sizeOf46, Try.isAgg46, trivial⟩⟩⟩,
  ⟨Try.isAgg53, Try.sizeOf53, ⟨_, Try.zeroValue53, rfl⟩, trivial⟩,
  ⟨Try.isAgg58, Try.sizeOf58, ⟨_, Try.zeroValue58, rfl⟩, ⟨_, Try.underlying58, ⟨rfl, Try.sizeOf9, Try.isAgg9, rfl, Try.sizeOf3, Try.isAgg3, rfl, Try.sizeOf32, Try.isAgg32, trivial⟩⟩⟩,
  ⟨Try.isAgg59, Try.sizeOf59, ⟨_, Try.zeroValue59, rfl⟩, trivial⟩,
  ⟨Try.isAgg61, Try.sizeOf61, ⟨_, Try.zeroValue61, rfl⟩, ⟨_, Try.underlying61, ⟨rfl, Try.sizeOf59, Try.isAgg59, rfl, Try.sizeOf39, Try.isAgg39, trivial⟩⟩⟩,
  ⟨Try.isAgg73, Try.sizeOf73, ⟨_, Try.zeroValue73, rfl⟩, trivial⟩,
  ⟨Try.isAgg74, Try.sizeOf74, ⟨_, Try.zeroValue74, rfl⟩, trivial⟩,
  ⟨Try.isAgg80, Try.sizeOf80, ⟨_, Try.zeroValue80, rfl⟩, trivial⟩,
  ⟨Try.isAgg82, Try.sizeOf82, ⟨_, Try.zeroValue82, rfl⟩, trivial⟩,
  ⟨Try.isAgg84, Try.sizeOf84, ⟨_, Try.zeroValue84, rfl⟩, trivial⟩,
  ⟨Try.isAgg87, Try.sizeOf87, ⟨_, Try.zeroValue87, rfl⟩, ⟨Try.underlying87, Try.sizeOf5⟩⟩,
  ⟨Try.isAgg89, Try.sizeOf89, ⟨_, Try.zeroValue89, rfl⟩, ⟨Try.underlying89, Try.sizeOf3⟩⟩,
  ⟨Try.isAgg91, Try.sizeOf91, ⟨_, Try.zeroValue91, rfl⟩, trivial⟩,
  ⟨Try.isAgg95, Try.sizeOf95, ⟨_, Try.zeroValue95, rfl⟩, Try.underlying95⟩,
  ⟨Try.isAgg103, Try.sizeOf103, ⟨_, Try.zeroValue103, rfl⟩, trivial⟩,
  ⟨Try.isAgg105, Try.sizeOf105, ⟨_, Try.zeroValue105, rfl⟩, Try.underlying105⟩,
  ⟨Try.isAgg113, Try.sizeOf113, ⟨_, Try.zeroValue113, rfl⟩, Try.underlying113⟩,
  ⟨Try.isAgg115, Try.sizeOf115, ⟨_, Try.zeroValue115, rfl⟩, Try.underlying115⟩,
  ⟨Try.isAgg125, Try.sizeOf125, ⟨_, Try.zeroValue125, rfl⟩, Try.underlying125⟩,
  ⟨Try.isAgg129, Try.sizeOf129, ⟨_, Try.zeroValue129, rfl⟩, ⟨_, Try.underlying129⟩⟩, trivial⟩

theorem cx_ok : cx.Ok := ⟨tab_ok, ⟨Try.call3, Try.call4, Try.call5, Try.call6, Try.call7, Try.call8, Try.call9, Try.call10, Try.call11, Try.call12, Try.call13, Try.call14, Try.call15, Try.call16, Try.call17, Try.call18, Try.call19, Try.call20, Try.call21, Try.call22, Try.call23, Try.call24, Try.call25, Try.call26, Try.call27, Try.call28, Try.call29, Try.call30, Try.call31, Try.call32, Try.call33, Try.call34, Try.call35, Try.call36, Try.call37, Try.call38, Try.call39, Try.call40, Try.call41, Try.call42, Try.call43, Try.call44, Try.call45, Try.call46, Try.call47, Try.call48, Try.call49, Try.call51, Try.call52, Try.call53, Try.call54, Try.call55, Try.call56, Try.call57, Try.call58, Try.call59, Try.call60, Try.call61, Try.call62, Try.call63, Try.call64, Try.call65, Try.call66, Try.call67, Try.call68, Try.call69, Try.call70, Try.call71, Try.call72, Try.call73, Try.call74, Try.call75, Try.call76, Try.call77, Try.call78, Try.call79, Try.call80, Try.call81, Try.call82, Try.call83, Try.call84, Try.call85, Try.call86, Try.call87, Try.call88, Try.call89, Try.call90, Try.call91, Try.call92, Try.call93, Try.call94, Try.call95, Try.call96, Try.call97, Try.call98, trivial⟩, mixed⟩

end Go.Proofs.Ytnoghkpofpaeeaa

