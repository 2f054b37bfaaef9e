/-
  The types and functions of this seat, as the conditions of code know them (printed by a program of this work).
-/
import Derived.Test.YtmibjillclfogaaDoorUse
import Derived.Test.YtmibjillclfogaaDoorProg
import Derived.WalkKit
namespace Go.Proofs.YtmibjillclfogaaDoor
open Go Go.RowKit Go.Proofs.Bw

noncomputable def tab : Tab := [(2, ⟨false, 1, [.int .i64 0], .int .i64⟩),
  (3, ⟨false, 1, [.int .i64 0], .int .i64⟩),
  (4, ⟨false, 1, [.bool false], .bool⟩),
  (5, ⟨false, 1, [.int .u8 0], .int .u8⟩),
  (9, ⟨false, 1, [.string ⟨#[]⟩], .str⟩),
  (22, ⟨false, 1, [.slice none 0 0], .slice 36 5⟩),
  (23, ⟨false, 1, [.slice none 0 0], .slice 38 3⟩),
  (26, ⟨false, 1, [.pointer none], .ptr⟩),
  (27, ⟨false, 1, [.int .i64 0], .int .i64⟩),
  (30, ⟨false, 1, [.pointer none], .ptr⟩),
  (31, ⟨false, 1, [.slice none 0 0], .slice 62 10⟩),
  (33, ⟨true, 2, [.int .i64 0, .slice none 0 0], .struct [⟨0, 1, false⟩, ⟨1, 1, false⟩]⟩),
  (34, ⟨false, 1, [.slice none 0 0], .slice 74 5⟩),
  (36, ⟨true, 5, [.int .u8 0, .int .i64 0, .string ⟨#[]⟩, .slice none 0 0, .slice none 0 0], .struct [⟨0, 1, false⟩, ⟨1, 1, false⟩, ⟨2, 1, false⟩, ⟨3, 1, false⟩, ⟨4, 1, false⟩]⟩),
  (38, ⟨true, 3, [.bool false, .int .u8 0, .int .u8 0], .struct [⟨0, 1, false⟩, ⟨1, 1, false⟩, ⟨2, 1, false⟩]⟩),
  (50, ⟨false, 1, [.map none], .other⟩),
  (51, ⟨false, 1, [.slice none 0 0], .slice 55 2⟩),
  (53, ⟨true, 3, [.int .i64 0, .slice none 0 0, .map none], .struct [⟨0, 1, false⟩, ⟨1, 1, false⟩, ⟨2, 1, false⟩]⟩),
  (55, ⟨true, 2, [.string ⟨#[]⟩, .string ⟨#[]⟩], .arr 2 9 1 false⟩),
  (60, ⟨false, 1, [.nilFunc], .other⟩),
  (62, ⟨true, 10, [.int .u8 0, .int .i64 0, .string ⟨#[]⟩, .slice none 0 0, .slice none 0 0, .int .u8 0, .int .i64 0, .string ⟨#[]⟩, .slice none 0 0, .slice none 0 0], .struct [⟨0, 5, true⟩, ⟨5, 5, true⟩]⟩),
  (64, ⟨false, 1, [.slice none 0 0], .slice 5 1⟩),
  (67, ⟨false, 1, [.slice none 0 0], .slice 9 1⟩),
  (69, ⟨false, 1, [.nilFunc], .other⟩),
  (72, ⟨true, 4, [.int .i64 0, .int .i64 0, .int .i64 0, .int .i64 0], .arr 4 3 1 false⟩),
  (74, ⟨true, 5, [.int .i64 0, .int .i64 0, .int .i64 0, .int .i64 0, .int .i64 0], .struct [⟨0, 1, false⟩, ⟨1, 4, true⟩]⟩),
  (77, ⟨false, 1, [.int .u64 0], .int .u64⟩),
  (81, ⟨false, 1, [.nilFunc], .other⟩),
  (84, ⟨false, 1, [.int .i64 0], .int .i64⟩),
  (92, ⟨false, 1, [.int .u32 0], .int .u32⟩),
  (94, ⟨false, 1, [.int .u64 0], .int .u64⟩),
  (99, ⟨false, 1, [.int .u64 0], .int .u64⟩),
  (103, ⟨false, 1, [.pointer none], .ptr⟩),
  (109, ⟨true, 24, [.int .u8 0, .int .u8 0, .int .u8 0, .int .u8 0, .int .u8 0, .int .u8 0, .int .u8 0, .int .u8 0, .int .u8 0, .int .u8 0, .int .u8 0, .int .u8 0, .int .u8 0, .int .u8 0, .int .u8 0, .int .u8 0, .int .u8 0, .int .u8 0, .int .u8 0, .int .u8 0, .int .u8 0, .int .u8 0, .int .u8 0, .int .u8 0], .arr 24 5 1 false⟩),
  (118, ⟨true, 20, [.int .u64 0, .int .u64 0, .int .u64 0, .int .u64 0, .int .u64 0, .int .u64 0, .int .u64 0, .int .u64 0, .int .u64 0, .int .u64 0, .int .u64 0, .int .u64 0, .int .u64 0, .int .u64 0, .int .u64 0, .int .u64 0, .int .u64 0, .int .u64 0, .int .u64 0, .int .u64 0], .arr 20 94 1 false⟩),
  (119, ⟨true, 65, [.int .u8 0, .int .u8 0, .int .u8 0, .int .u8 0, .int .u8 0, .int .u8 0, .int .u8 0, .int .u8 0, .int .u8 0, .int .u8 0, .int .u8 0, .int .u8 0, .int .u8 0, .int .u8 0, .int .u8 0, .int .u8 0, .int .u8 0, .int .u8 0, .int .u8 0, .int .u8 0, .int .u8 0, .int .u8 0, .int .u8 0, .int .u8 0, .int .u8 0, .int .u8 0, .int .u8 0, .int .u8 0, .int .u8 0, .int .u8 0, .int .u8 0, .int .u8 0, .int .u8 0, .int .u8 0, .int .u8 0, .int .u8 0, .int .u8 0, .int .u8 0, .int .u8 0, .int .u8 0, .int .u8 0, .int .u8 0, .int .u8 0, .int .u8 0, .int .u8 0, .int .u8 0, .int .u8 0, .int .u8 0, .int .u8 0, .int .u8 0, .int .u8 0, .int .u8 0, .int .u8 0, .int .u8 0, .int .u8 0, .int .u8 0, .int .u8 0, .int .u8 0, .int .u8 0, .int .u8 0, .int .u8 0, .int .u8 0, .int .u8 0, .int .u8 0, .int .u8 0], .arr 65 5 1 false⟩),
  (121, ⟨true, 32, [.int .u8 0, .int .u8 0, .int .u8 0, .int .u8 0, .int .u8 0, .int .u8 0, .int .u8 0, .int .u8 0, .int .u8 0, .int .u8 0, .int .u8 0, .int .u8 0, .int .u8 0, .int .u8 0, .int .u8 0, .int .u8 0, .int .u8 0, .int .u8 0, .int .u8 0, .int .u8 0, .int .u8 0, .int .u8 0, .int .u8 0, .int .u8 0, .int .u8 0, .int .u8 0, .int .u8 0, .int .u8 0, .int .u8 0, .int .u8 0, .int .u8 0, .int .u8 0], .arr 32 5 1 false⟩),
  (122, ⟨true, 64, [.int .u8 0, .int .u8 0, .int .u8 0, .int .u8 0, .int .u8 0, .int .u8 0, .int .u8 0, .int .u8 0, .int .u8 0, .int .u8 0, .int .u8 0, .int .u8 0, .int .u8 0, .int .u8 0, .int .u8 0, .int .u8 0, .int .u8 0, .int .u8 0, .int .u8 0, .int .u8 0, .int .u8 0, .int .u8 0, .int .u8 0, .int .u8 0, .int .u8 0, .int .u8 0, .int .u8 0, .int .u8 0, .int .u8 0, .int .u8 0, .int .u8 0, .int .u8 0, .int .u8 0, .int .u8 0, .int .u8 0, .int .u8 0, .int .u8 0, .int .u8 0, .int .u8 0, .int .u8 0, .int .u8 0, .int .u8 0, .int .u8 0, .int .u8 0, .int .u8 0, .int .u8 0, .int .u8 0, .int .u8 0, .int .u8 0, .int .u8 0, .int .u8 0, .int .u8 0, .int .u8 0, .int .u8 0, .int .u8 0, .int .u8 0, .int .u8 0, .int .u8 0, .int .u8 0, .int .u8 0, .int .u8 0, .int .u8 0, .int .u8 0, .int .u8 0], .arr 64 5 1 false⟩)]

noncomputable def cx : Cx := ⟨Tryd.prog, tab, [3, 4, 5, 6, 7, 8, 9, 10, 11, 12, 13, 14, 15, 16, 17, 18, 19, 20, 21, 22, 23, 24, 25, 26, 27, 28, 29, 30, 31, 32, 33, 34, 35, 36, 37, 38, 39, 40, 41, 42, 43, 44, 45, 46, 47, 48, 49, 50, 51, 52, 53, 54, 55, 56, 57, 58, 59, 60, 61, 62, 63, 64, 65, 66, 67, 68, 69, 70, 71, 72, 73, 74, 75, 76, 77, 78, 79, 80, 103]⟩

theorem mixed : Tryd.prog.follows .mixedOrders = true := by kernel_rfl

set_option maxRecDepth 20000 in
theorem tab_ok : TabOk Tryd.prog tab := ⟨⟨Tryd.isAgg2, Tryd.sizeOf2, ⟨_, Tryd.zeroValue2, rfl⟩, Tryd.underlying2⟩,
  ⟨Tryd.isAgg3, Tryd.sizeOf3, ⟨_, Tryd.zeroValue3, rfl⟩, Tryd.underlying3⟩,
  ⟨Tryd.isAgg4, Tryd.sizeOf4, ⟨_, Tryd.zeroValue4, rfl⟩, Tryd.underlying4⟩,
  ⟨Tryd.isAgg5, Tryd.sizeOf5, ⟨_, Tryd.zeroValue5, rfl⟩, Tryd.underlying5⟩,
  ⟨Tryd.isAgg9, Tryd.sizeOf9, ⟨_, Tryd.zeroValue9, rfl⟩, Tryd.underlying9⟩,
  ⟨Tryd.isAgg22, Tryd.sizeOf22, ⟨_, Tryd.zeroValue22, rfl⟩, ⟨Tryd.underlying22, Tryd.sizeOf36⟩⟩,
  ⟨Tryd.isAgg23, Tryd.sizeOf23, ⟨_, Tryd.zeroValue23, rfl⟩, ⟨Tryd.underlying23, Tryd.sizeOf38⟩⟩,
  ⟨Tryd.isAgg26, Tryd.sizeOf26, ⟨_, Tryd.zeroValue26, rfl⟩, ⟨_, Tryd.underlying26⟩⟩,
  ⟨Tryd.isAgg27, Tryd.sizeOf27, ⟨_, Tryd.zeroValue27, rfl⟩, Tryd.underlying27⟩,
  ⟨Tryd.isAgg30, Tryd.sizeOf30, ⟨_, Tryd.zeroValue30, rfl⟩, ⟨_, Tryd.underlying30⟩⟩,
  ⟨Tryd.isAgg31, Tryd.sizeOf31, ⟨_, Tryd.zeroValue31, rfl⟩, ⟨Tryd.underlying31, Tryd.sizeOf62⟩⟩,
  ⟨Tryd.isAgg33, Tryd.sizeOf33, ⟨_, Tryd.zeroValue33, rfl⟩, ⟨_, Tryd.underlying33, ⟨rfl, Tryd.sizeOf3, Tryd.isAgg3, rfl, Tryd.sizeOf31, Tryd.isAgg31, trivial⟩⟩⟩,
  ⟨Tryd.isAgg34, Tryd.sizeOf34, ⟨_, Tryd.zeroValue34, rfl⟩, ⟨Tryd.underlying34, Tryd.sizeOf74⟩⟩,
  ⟨Tryd.isAgg36, Tryd.sizeOf36, ⟨_, Tryd.zeroValue36, rfl⟩, ⟨_, Tryd.underlying36, ⟨rfl, Tryd.sizeOf5, Tryd.isAgg5, rfl, Tryd.sizeOf3, Tryd.isAgg3, rfl, Tryd.sizeOf9, Tryd.isAgg9, rfl, Tryd.sizeOf34, Tryd.isAgg34, rfl, Tryd.sizeOf22, Tryd.isAgg22, trivial⟩⟩⟩,
  ⟨Tryd.isAgg38, Tryd.sizeOf38, ⟨_, Tryd.zeroValue38, rfl⟩, ⟨_, Tryd.underlying38, ⟨rfl, Tryd.sizeOf4, Tryd.isAgg4, rfl, Tryd.sizeOf5, Tryd.isAgg5, rfl, Tryd.sizeOf5, Tryd.isAgg5, trivial⟩⟩⟩,
  ⟨Tryd.isAgg50, Tryd.sizeOf50, ⟨_, Tryd.zeroValue50, rfl⟩, trivial⟩,
  ⟨Tryd.isAgg51, Tryd.sizeOf51, ⟨_, Tryd.zeroValue51, rfl⟩, ⟨Tryd.underlying51, Tryd.sizeOf55⟩⟩,
  ⟨Tryd.isAgg53, Tryd.sizeOf53, ⟨_, Tryd.zeroValue53, rfl⟩, ⟨_, Tryd.underlying53, ⟨rfl, Tryd.sizeOf3, Tryd.isAgg3, rfl, Tryd.sizeOf51, Tryd.isAgg51, rfl, Tryd.sizeOf50, Tryd.isAgg50, trivial⟩⟩⟩,
  ⟨Tryd.isAgg55, Tryd.sizeOf55, ⟨_, Tryd.zeroValue55, rfl⟩, ⟨Tryd.underlying55, Tryd.sizeOf9, Tryd.isAgg9⟩⟩,
  ⟨Tryd.isAgg60, Tryd.sizeOf60, ⟨_, Tryd.zeroValue60, rfl⟩, trivial⟩,
  ⟨Tryd.isAgg62, Tryd.sizeOf62, ⟨_, Tryd.zeroValue62, rfl⟩, ⟨_, Tryd.underlying62, ⟨rfl, Tryd.sizeOf36, Tryd.isAgg36, rfl, Tryd.sizeOf36, Tryd.isAgg36, trivial⟩⟩⟩,
  ⟨Tryd.isAgg64, Tryd.sizeOf64, ⟨_, Tryd.zeroValue64, rfl⟩, ⟨Tryd.underlying64, Tryd.sizeOf5⟩⟩,
  ⟨Tryd.isAgg67, Tryd.sizeOf67, ⟨_, Tryd.zeroValue67, rfl⟩, ⟨Tryd.underlying67, Tryd.sizeOf9⟩⟩,
  ⟨Tryd.isAgg69, Tryd.sizeOf69, ⟨_, Tryd.zeroValue69, rfl⟩, trivial⟩,
  ⟨Tryd.isAgg72, Tryd.sizeOf72, ⟨_, Tryd.zeroValue72, rfl⟩, ⟨Tryd.underlying72, Tryd.sizeOf3, Tryd.isAgg3⟩⟩,
  ⟨Tryd.isAgg74, Tryd.sizeOf74, ⟨_, Tryd.zeroValue74, rfl⟩, ⟨_, Tryd.underlying74, ⟨rfl, Tryd.sizeOf3, Tryd.isAgg3, rfl, Tryd.sizeOf72, Tryd.isAgg72, trivial⟩⟩⟩,
  ⟨Tryd.isAgg77, Tryd.sizeOf77, ⟨_, Tryd.zeroValue77, rfl⟩, Tryd.underlying77⟩,
  ⟨Tryd.isAgg81, Tryd.sizeOf81, ⟨_, Tryd.zeroValue81, rfl⟩, trivial⟩,
  ⟨Tryd.isAgg84, Tryd.sizeOf84, ⟨_, Tryd.zeroValue84, rfl⟩, Tryd.underlying84⟩,
  ⟨Tryd.isAgg92, Tryd.sizeOf92, ⟨_, Tryd.zeroValue92, rfl⟩, Tryd.underlying92⟩,
  ⟨Tryd.isAgg94, Tryd.sizeOf94, ⟨_, Tryd.zeroValue94, rfl⟩, Tryd.underlying94⟩,
  ⟨Tryd.isAgg99, Tryd.sizeOf99, ⟨_, Tryd.zeroValue99, rfl⟩, Tryd.underlying99⟩,
  ⟨Tryd.isAgg103, Tryd.sizeOf103, ⟨_, Tryd.zeroValue103, rfl⟩, ⟨_, Tryd.underlying103⟩⟩,
  ⟨Tryd.isAgg109, Tryd.sizeOf109, ⟨_, Tryd.zeroValue109, rfl⟩, ⟨Tryd.underlying109, Tryd.sizeOf5, Tryd.isAgg5⟩⟩,
  ⟨Tryd.isAgg118, Tryd.sizeOf118, ⟨_, Tryd.zeroValue118, rfl⟩, ⟨Tryd.underlying118, Tryd.sizeOf94, Tryd.isAgg94⟩⟩,
  ⟨Tryd.isAgg119, Tryd.sizeOf119, ⟨_, Tryd.zeroValue119, rfl⟩, ⟨Tryd.underlying119, Tryd.sizeOf5, Tryd.isAgg5⟩⟩,
  ⟨Tryd.isAgg121, Tryd.sizeOf121, ⟨_, Tryd.zeroValue121, rfl⟩, ⟨Tryd.underlying121, Tryd.sizeOf5, Tryd.isAgg5⟩⟩,
  ⟨Tryd.isAgg122, Tryd.sizeOf122, ⟨_, Tryd.zeroValue122, rfl⟩, ⟨Tryd.underlying122, Tryd.sizeOf5, Tryd.isAgg5⟩⟩, trivial⟩

theorem cx_ok : cx.Ok := ⟨tab_ok, ⟨Tryd.call3, Tryd.call4, Tryd.call5, Tryd.call6, Tryd.call7, Tryd.call8, Tryd.call9, Tryd.call10, Tryd.call11, Tryd.call12, Tryd.call13, Tryd.call14, Tryd.call15, Tryd.call16, Tryd.call17, Tryd.call18, Tryd.call19, Tryd.call20, Tryd.call21, Tryd.call22, Tryd.call23, Tryd.call24, Tryd.call25, Tryd.call26, Tryd.call27, Tryd.call28, Tryd.call29, Tryd.call30, Tryd.call31, Tryd.call32, Tryd.call33, Tryd.call34, Tryd.call35, Tryd.call36, Tryd.call37, Tryd.call38, Tryd.call39, Tryd.call40, Tryd.call41, Tryd.call42, Tryd.call43, Tryd.call44, Tryd.call45, Tryd.call46, Tryd.call47, Tryd.call48, Tryd.call49, Tryd.call50, Tryd.call51, Tryd.call52, Tryd.call53, Tryd.call54, Tryd.call55, Tryd.call56, Tryd.call57, Tryd.call58, Tryd.call59, Tryd.call60, Tryd.call61, Tryd.call62, Tryd.call63, Tryd.call64, Tryd.call65, Tryd.call66, Tryd.call67, Tryd.call68, Tryd.call69, Tryd.call70, Tryd.call71, Tryd.call72, Tryd.call73, Tryd.call74, Tryd.call75, Tryd.call76, Tryd.call77, Tryd.call78, Tryd.call79, Tryd.call80, Tryd.call103, trivial⟩, mixed⟩

end Go.Proofs.YtmibjillclfogaaDoor

