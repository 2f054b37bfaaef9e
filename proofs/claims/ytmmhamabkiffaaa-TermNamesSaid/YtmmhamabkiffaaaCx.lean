/-
  The types and functions of this seat, as the conditions of code know them (printed by a program of this work).
-/
import Derived.Test.YtmmhamabkiffaaaUse
import Derived.Test.YtmmhamabkiffaaaProg
import Derived.WalkKit
namespace Go.Proofs.Ytmmhamabkiffaaa
open Go Go.RowKit Go.Proofs.Bw

noncomputable def tab : Tab := [(3, ⟨false, 1, [.int .i64 0], .int .i64⟩),
  (4, ⟨false, 1, [.bool false], .bool⟩),
  (5, ⟨false, 1, [.int .u8 0], .int .u8⟩),
  (9, ⟨false, 1, [.string ⟨#[]⟩], .str⟩),
  (22, ⟨false, 1, [.int .i8 0], .int .i8⟩),
  (23, ⟨false, 1, [.slice none 0 0], .slice 46 5⟩),
  (24, ⟨false, 1, [.slice none 0 0], .slice 26 5⟩),
  (26, ⟨true, 5, [.int .u8 0, .int .i64 0, .string ⟨#[]⟩, .slice none 0 0, .slice none 0 0], .struct [⟨0, 1, false⟩, ⟨1, 1, false⟩, ⟨2, 1, false⟩, ⟨3, 1, false⟩, ⟨4, 1, false⟩]⟩),
  (36, ⟨false, 1, [.nilFunc], .other⟩),
  (40, ⟨false, 1, [.slice none 0 0], .slice 9 1⟩),
  (44, ⟨true, 4, [.int .i64 0, .int .i64 0, .int .i64 0, .int .i64 0], .arr 4 3 1 false⟩),
  (46, ⟨true, 5, [.int .i64 0, .int .i64 0, .int .i64 0, .int .i64 0, .int .i64 0], .struct [⟨0, 1, false⟩, ⟨1, 4, true⟩]⟩),
  (48, ⟨false, 1, [.nilFunc], .other⟩),
  (55, ⟨false, 1, [.slice none 0 0], .slice 5 1⟩),
  (59, ⟨false, 1, [.nilFunc], .other⟩),
  (63, ⟨false, 1, [.int .u64 0], .int .u64⟩),
  (70, ⟨false, 1, [.int .i64 0], .int .i64⟩),
  (78, ⟨false, 1, [.int .u32 0], .int .u32⟩),
  (80, ⟨false, 1, [.int .u64 0], .int .u64⟩),
  (84, ⟨false, 1, [.int .u64 0], .int .u64⟩),
  (88, ⟨false, 1, [.pointer none], .ptr⟩)]

noncomputable def cx : Cx := ⟨Try.prog, tab, [3, 4, 5, 6, 7, 8, 9, 10, 11, 12, 13, 14, 15, 16, 17, 18, 19, 20, 21, 22, 23, 24, 25, 26, 27, 28, 29, 30, 31, 32, 33, 34, 35, 36, 37, 38, 39, 40, 41, 42, 43, 44, 45, 46, 47, 48, 49, 50, 51, 52, 53, 54, 55, 56, 57, 58, 59, 60, 61, 62, 63, 64, 65, 66, 67, 68, 69, 70, 71, 72, 73, 74, 75, 76, 77]⟩

theorem mixed : Try.prog.follows .mixedOrders = true := by kernel_rfl

set_option maxRecDepth 20000 in
theorem tab_ok : TabOk Try.prog tab := ⟨⟨Try.isAgg3, Try.sizeOf3, ⟨_, Try.zeroValue3, rfl⟩, Try.underlying3⟩,
  ⟨Try.isAgg4, Try.sizeOf4, ⟨_, Try.zeroValue4, rfl⟩, Try.underlying4⟩,
  ⟨Try.isAgg5, Try.sizeOf5, ⟨_, Try.zeroValue5, rfl⟩, Try.underlying5⟩,
  ⟨Try.isAgg9, Try.sizeOf9, ⟨_, Try.zeroValue9, rfl⟩, Try.underlying9⟩,
  ⟨Try.isAgg22, Try.sizeOf22, ⟨_, Try.zeroValue22, rfl⟩, Try.underlying22⟩,
  ⟨Try.isAgg23, Try.sizeOf23, ⟨_, Try.zeroValue23, rfl⟩, ⟨Try.underlying23, Try.sizeOf46⟩⟩,
  ⟨Try.isAgg24, Try.sizeOf24, ⟨_, Try.zeroValue24, rfl⟩, ⟨Try.underlying24, Try.sizeOf26⟩⟩,
  ⟨Try.isAgg26, Try.sizeOf26, ⟨_, Try.zeroValue26, rfl⟩, ⟨_, Try.underlying26, ⟨rfl, Try.sizeOf5, Try.isAgg5, rfl, Try.sizeOf3, Try.isAgg3, rfl, Try.sizeOf9, Try.isAgg9, rfl, Try.sizeOf23, Try.isAgg23, rfl, Try.sizeOf24, Try.isAgg24, trivial⟩⟩⟩,
  ⟨Try.isAgg36, Try.sizeOf36, ⟨_, Try.zeroValue36, rfl⟩, trivial⟩,
  ⟨Try.isAgg40, Try.sizeOf40, ⟨_, Try.zeroValue40, rfl⟩, ⟨Try.underlying40, Try.sizeOf9⟩⟩,
  ⟨Try.isAgg44, Try.sizeOf44, ⟨_, Try.zeroValue44, rfl⟩, ⟨Try.underlying44, Try.sizeOf3, Try.isAgg3⟩⟩,
  ⟨Try.isAgg46, Try.sizeOf46, ⟨_, Try.zeroValue46, rfl⟩, ⟨_, Try.underlying46, ⟨rfl, Try.sizeOf3, Try.isAgg3, rfl, Try.sizeOf44, Try.isAgg44, trivial⟩⟩⟩,
  ⟨Try.isAgg48, Try.sizeOf48, ⟨_, Try.zeroValue48, rfl⟩, trivial⟩,
  ⟨Try.isAgg55, Try.sizeOf55, ⟨_, Try.zeroValue55, rfl⟩, ⟨Try.underlying55, Try.sizeOf5⟩⟩,
  ⟨Try.isAgg59, Try.sizeOf59, ⟨_, Try.zeroValue59, rfl⟩, trivial⟩,
  ⟨Try.isAgg63, Try.sizeOf63, ⟨_, Try.zeroValue63, rfl⟩, Try.underlying63⟩,
  ⟨Try.isAgg70, Try.sizeOf70, ⟨_, Try.zeroValue70, rfl⟩, Try.underlying70⟩,
  ⟨Try.isAgg78, Try.sizeOf78, ⟨_, Try.zeroValue78, rfl⟩, Try.underlying78⟩,
  ⟨Try.isAgg80, Try.sizeOf80, ⟨_, Try.zeroValue80, rfl⟩, Try.underlying80⟩,
  ⟨Try.isAgg84, Try.sizeOf84, ⟨_, Try.zeroValue84, rfl⟩, Try.underlying84⟩,
  ⟨Try.isAgg88, Try.sizeOf88, ⟨_, Try.zeroValue88, rfl⟩, ⟨_, Try.underlying88⟩⟩, trivial⟩

theorem cx_ok : cx.Ok := ⟨tab_ok, ⟨Try.call3, Try.call4, Try.call5, Try.call6, Try.call7, Try.call8, Try.call9, Try.call10, Try.call11, Try.call12, Try.call13, Try.call14, Try.call15, Try.call16, Try.call17, Try.call18, Try.call19, Try.call20, Try.call21, Try.call22, Try.call23, Try.call24, Try.call25, Try.call26, Try.call27, Try.call28, Try.call29, Try.call30, Try.call31, Try.call32, Try.call33, Try.call34, Try.call35, Try.call36, Try.call37, Try.call38, Try.call39, Try.call40, Try.call41, Try.call42, Try.call43, Try.call44, Try.call45, Try.call46, Try.call47, Try.call48, Try.call49, Try.call50, Try.call51, Try.call52, Try.call53, Try.call54, Try.call55, Try.call56, Try.call57, Try.call58, Try.call59, Try.call60, Try.call61, Try.call62, Try.call63, Try.call64, Try.call65, Try.call66, Try.call67, Try.call68, Try.call69, Try.call70, Try.call71, Try.call72, Try.call73, Try.call74, Try.call75, Try.call76, Try.call77, trivial⟩, mixed⟩

end Go.Proofs.Ytmmhamabkiffaaa

