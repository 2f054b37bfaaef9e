/-
  The types and functions of this seat, as the conditions of code know them (printed by a program of this work).
-/
import Derived.Test.YtcjkodcamkcljaaUse
import Derived.Test.YtcjkodcamkcljaaProg
import Derived.WalkKit
namespace Go.Proofs.Ytcjkodcamkcljaa
open Go Go.RowKit Go.Proofs.Bw

noncomputable def tab : Tab := [(3, ⟨false, 1, [.int .i64 0], .int .i64⟩),
  (4, ⟨false, 1, [.bool false], .bool⟩),
  (5, ⟨false, 1, [.int .u8 0], .int .u8⟩),
  (9, ⟨false, 1, [.string ⟨#[]⟩], .str⟩),
  (22, ⟨false, 1, [.slice none 0 0], .slice 5 1⟩),
  (23, ⟨false, 1, [.int .u64 0], .int .u64⟩),
  (27, ⟨false, 1, [.int .i64 0], .int .i64⟩),
  (34, ⟨false, 1, [.pointer none], .ptr⟩),
  (39, ⟨false, 1, [.slice none 0 0], .slice 42 2⟩),
  (40, ⟨false, 1, [.int .u16 0], .int .u16⟩),
  (42, ⟨true, 2, [.int .u64 0, .string ⟨#[]⟩], .struct [⟨0, 1, false⟩, ⟨1, 1, false⟩]⟩),
  (51, ⟨false, 1, [.slice none 0 0], .slice 53 4⟩),
  (53, ⟨true, 4, [.int .u8 0, .int .u64 0, .int .i64 0, .int .i64 0], .struct [⟨0, 1, false⟩, ⟨1, 1, false⟩, ⟨2, 1, false⟩, ⟨3, 1, false⟩]⟩),
  (58, ⟨true, 4, [.slice none 0 0, .int .i64 0, .int .i64 0, .int .i64 0], .struct [⟨0, 1, false⟩, ⟨1, 1, false⟩, ⟨2, 1, false⟩, ⟨3, 1, false⟩]⟩),
  (62, ⟨false, 1, [.nilFunc], .other⟩)]

noncomputable def cx : Cx := ⟨Try.prog, tab, [3, 4, 5, 6, 7, 8, 9, 10, 11, 12, 13, 14, 15, 16, 17, 18, 19, 20, 21, 22, 23, 24, 25, 26, 27, 28, 29, 30, 31, 32, 33]⟩

theorem mixed : Try.prog.follows .mixedOrders = true := by kernel_rfl

set_option maxRecDepth 20000 in
theorem tab_ok : TabOk Try.prog tab := ⟨⟨Try.isAgg3, Try.sizeOf3, ⟨_, Try.zeroValue3, rfl⟩, Try.underlying3⟩,
  ⟨Try.isAgg4, Try.sizeOf4, ⟨_, Try.zeroValue4, rfl⟩, Try.underlying4⟩,
  ⟨Try.isAgg5, Try.sizeOf5, ⟨_, Try.zeroValue5, rfl⟩, Try.underlying5⟩,
  ⟨Try.isAgg9, Try.sizeOf9, ⟨_, Try.zeroValue9, rfl⟩, Try.underlying9⟩,
  ⟨Try.isAgg22, Try.sizeOf22, ⟨_, Try.zeroValue22, rfl⟩, ⟨Try.underlying22, Try.sizeOf5⟩⟩,
  ⟨Try.isAgg23, Try.sizeOf23, ⟨_, Try.zeroValue23, rfl⟩, Try.underlying23⟩,
  ⟨Try.isAgg27, Try.sizeOf27, ⟨_, Try.zeroValue27, rfl⟩, Try.underlying27⟩,
  ⟨Try.isAgg34, Try.sizeOf34, ⟨_, Try.zeroValue34, rfl⟩, ⟨_, Try.underlying34⟩⟩,
  ⟨Try.isAgg39, Try.sizeOf39, ⟨_, Try.zeroValue39, rfl⟩, ⟨Try.underlying39, Try.sizeOf42⟩⟩,
  ⟨Try.isAgg40, Try.sizeOf40, ⟨_, Try.zeroValue40, rfl⟩, Try.underlying40⟩,
  ⟨Try.isAgg42, Try.sizeOf42, ⟨_, Try.zeroValue42, rfl⟩, ⟨_, Try.underlying42, ⟨rfl, Try.sizeOf23, Try.isAgg23, rfl, Try.sizeOf9, Try.isAgg9, trivial⟩⟩⟩,
  ⟨Try.isAgg51, Try.sizeOf51, ⟨_, Try.zeroValue51, rfl⟩, ⟨Try.underlying51, Try.sizeOf53⟩⟩,
  ⟨Try.isAgg53, Try.sizeOf53, ⟨_, Try.zeroValue53, rfl⟩, ⟨_, Try.underlying53, ⟨rfl, Try.sizeOf5, Try.isAgg5, rfl, Try.sizeOf23, Try.isAgg23, rfl, Try.sizeOf3, Try.isAgg3, rfl, Try.sizeOf3, Try.isAgg3, trivial⟩⟩⟩,
  ⟨Try.isAgg58, Try.sizeOf58, ⟨_, Try.zeroValue58, rfl⟩, ⟨_, Try.underlying58, ⟨rfl, Try.sizeOf22, Try.isAgg22, rfl, Try.sizeOf3, Try.isAgg3, rfl, Try.sizeOf27, Try.isAgg27, rfl, Try.sizeOf3, Try.isAgg3, trivial⟩⟩⟩,
  ⟨Try.isAgg62, Try.sizeOf62, ⟨_, Try.zeroValue62, rfl⟩, trivial⟩, trivial⟩

theorem cx_ok : cx.Ok := ⟨tab_ok, ⟨Try.call3, Try.call4, Try.call5, Try.call6, Try.call7, Try.call8, Try.call9, Try.call10, Try.call11, Try.call12, Try.call13, Try.call14, Try.call15, Try.call16, Try.call17, Try.call18, Try.call19, Try.call20, Try.call21, Try.call22, Try.call23, Try.call24, Try.call25, Try.call26, Try.call27, Try.call28, Try.call29, Try.call30, Try.call31, Try.call32, Try.call33, trivial⟩, mixed⟩

end Go.Proofs.Ytcjkodcamkcljaa

