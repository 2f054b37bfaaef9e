/-
  OctetNil of layer 1: what is asked of no reader.
-/
import Derived.Test.YtcjkodcamkcljaaO8
namespace Go.Proofs.Ytcjkodcamkcljaa
open Go Go.RowKit Go.Proofs.Bw
set_option linter.unusedVariables false
set_option linter.unusedSimpArgs false

theorem OctetNil_runs (n at_ e : Int) (w : World) : Runs Try.prog 6 #[.int .u64 n, .int .i64 at_, .int .i64 e] w fun v w' => v = .bool true ∧ Ext w w' := by
  refine Runs.of_vc cx_ok [0, 1, 2, 6, 7, 8, 9] [.v _, .v _, .v _] Try.func6 rfl rfl rfl (Holds.nil _) ?_
  refine vcS (FailNil_runs at_ e _) (Holds.nil _) fun w1 x1 hh1 => ?_
  refine vcS (BadNil_runs _) (Holds.nil _) fun w2 x2 hh2 => ?_
  refine vcS (NumberNil_runs n _) (Holds.nil _) fun w3 x3 hh3 => ?_
  refine vyes rfl ?_
  refine vcS (ByteNil_runs _) (Holds.nil _) fun w4 x4 hh4 => ?_
  refine vyes rfl ?_
  refine vcS (RNameNil_runs _) (Holds.nil _) fun w5 x5 hh5 => ?_
  refine vyes rfl ?_
  refine vcS (LeftN_runs _) (Holds.nil _) fun w6 x6 hh6 => ?_
  refine vyes rfl ?_
  refine vcS (AtNil_runs _) (Holds.nil _) fun w7 x7 hh7 => ?_
  refine vyes rfl ?_
  refine vcS (works_runs _) (Holds.nil _) fun w8 x8 hh8 => ?_
  exact ⟨rfl, x1.trans (x2.trans (x3.trans (x4.trans (x5.trans (x6.trans (x7.trans x8))))))⟩
end Go.Proofs.Ytcjkodcamkcljaa

