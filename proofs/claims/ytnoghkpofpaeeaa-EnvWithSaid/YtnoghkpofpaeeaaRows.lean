/-
  NARROWER THAN 'FOR EVERY INPUT', by the rows' own cells (each row's printed sentence says how): EnvStays: loops · EnvWrong: loops · EnvWith: loops · EnvNil: loops.
  DERIVED. THE GIVEN ROWS OF THIS SEAT. 4 by the template 'for every input the law returns true; each argument reads behind the call as it read before'; 0 by the template 'total and deterministic' (their statements: YtnoghkpofpaeeaaTotals.lean).
  GIVEN WITH THE SEED: the statements are not yours to turn. If you find one false, say at which input.
  Laid BY PROGRAM, IN A SANDBOX (cutbox-rows.mjs): the forced cells as the released guide's own fill.sh prints them over the translation 4d9282da57254d48… (all of the seat's roots in one cut). By AI agents, Wed Nov 11 2026. No macro, syntax, notation, axiom, sorry.
-/
import Derived.Test.YtnoghkpofpaeeaaChecked
import GoSem.Claim
import GoSem.ClaimJoined
import GoSem.ClaimMapViews
import Derived.JoinedTies
import Derived.KernelRfl
namespace Go.Proofs.Ytnoghkpofpaeeaa
/- THE CELL 'sum', in the pinned program and in every row, IS THE sha256 OF THE DUMP (.gsa) THAT YtnoghkpofpaeeaaProg.lean LOADS. Nothing in Lean hashes anything: it is a label: what it is worth is what the hold of that sum in a sandbox is worth. -/
noncomputable def Try.pinned : Pinned := { name := "ytnoghkpofpaeeaa", sum := "4d9282da57254d48222560fef6c9f7059b9189a029e52ce24ea733562bcd7920", checked := Try.checked }
namespace Rows
def none {H : Type} : Left H := { results := [], args := [] }

/-- 'battenlaw07.EnvStays': WHATEVER THE INPUT: true; the input reads as it did. -/
def envStaysSpec : ChangeSpec := { name := "envStays", fn := fun _ => fun
  | [d] => { results := [.lit (.bool true)], args := [d] }
  | _ => none }
def envStaysRow : OpenClaim := { program := "ytnoghkpofpaeeaa", sum := "4d9282da57254d48222560fef6c9f7059b9189a029e52ce24ea733562bcd7920", func := "batten/battenlaw07.EnvStays", spec := "envStays", unfollowed := true, recurses := true, loops := true, apart := false }
def EnvStaysSaid : Prop := envStaysRow.holds Try.pinned (OpenSpec.ofChange envStaysSpec)

/-- ITS FALSE NEIGHBOUR: 'it returns false'. Refute it at one input. -/
def envStaysWrong : ChangeSpec := { name := "envStays", fn := fun _ => fun
  | [d] => { results := [.lit (.bool false)], args := [d] }
  | _ => none }
def EnvStaysWrongFalsely : Prop := envStaysRow.holds Try.pinned (OpenSpec.ofChange envStaysWrong)

/-- 'battenlaw07.EnvWrong': WHATEVER THE INPUT: true; the input reads as it did. -/
def envWrongSpec : ChangeSpec := { name := "envWrong", fn := fun _ => fun
  | [d1, d2] => { results := [.lit (.bool true)], args := [d1, d2] }
  | _ => none }
def envWrongRow : OpenClaim := { program := "ytnoghkpofpaeeaa", sum := "4d9282da57254d48222560fef6c9f7059b9189a029e52ce24ea733562bcd7920", func := "batten/battenlaw07.EnvWrong", spec := "envWrong", unfollowed := true, recurses := true, loops := true, apart := false }
def EnvWrongSaid : Prop := envWrongRow.holds Try.pinned (OpenSpec.ofChange envWrongSpec)

/-- ITS FALSE NEIGHBOUR: 'it returns false'. Refute it at one input. -/
def envWrongWrong : ChangeSpec := { name := "envWrong", fn := fun _ => fun
  | [d1, d2] => { results := [.lit (.bool false)], args := [d1, d2] }
  | _ => none }
def EnvWrongWrongFalsely : Prop := envWrongRow.holds Try.pinned (OpenSpec.ofChange envWrongWrong)

/-- 'battenlaw07.EnvWith': WHATEVER THE INPUT: true; the input reads as it did. -/
def envWithSpec : ChangeSpec := { name := "envWith", fn := fun _ => fun
  | [d1, d2, d3] => { results := [.lit (.bool true)], args := [d1, d2, d3] }
  | _ => none }
def envWithRow : OpenClaim := { program := "ytnoghkpofpaeeaa", sum := "4d9282da57254d48222560fef6c9f7059b9189a029e52ce24ea733562bcd7920", func := "batten/battenlaw07.EnvWith", spec := "envWith", inPlace := ["maps.clone"], unfollowed := true, recurses := true, loops := true, apart := false }
def EnvWithSaid : Prop := envWithRow.holds Try.pinned (OpenSpec.ofChange envWithSpec)

/-- ITS FALSE NEIGHBOUR: 'it returns false'. Refute it at one input. -/
def envWithWrong : ChangeSpec := { name := "envWith", fn := fun _ => fun
  | [d1, d2, d3] => { results := [.lit (.bool false)], args := [d1, d2, d3] }
  | _ => none }
def EnvWithWrongFalsely : Prop := envWithRow.holds Try.pinned (OpenSpec.ofChange envWithWrong)

/-- 'battenlaw07.EnvNil': WHATEVER THE INPUT: true; the input reads as it did. -/
def envNilSpec : ChangeSpec := { name := "envNil", fn := fun _ => fun
  | [d1, d2] => { results := [.lit (.bool true)], args := [d1, d2] }
  | _ => none }
def envNilRow : OpenClaim := { program := "ytnoghkpofpaeeaa", sum := "4d9282da57254d48222560fef6c9f7059b9189a029e52ce24ea733562bcd7920", func := "batten/battenlaw07.EnvNil", spec := "envNil", inPlace := ["maps.clone"], unfollowed := true, recurses := true, loops := true, apart := false }
def EnvNilSaid : Prop := envNilRow.holds Try.pinned (OpenSpec.ofChange envNilSpec)

/-- ITS FALSE NEIGHBOUR: 'it returns false'. Refute it at one input. -/
def envNilWrong : ChangeSpec := { name := "envNil", fn := fun _ => fun
  | [d1, d2] => { results := [.lit (.bool false)], args := [d1, d2] }
  | _ => none }
def EnvNilWrongFalsely : Prop := envNilRow.holds Try.pinned (OpenSpec.ofChange envNilWrong)

/- THE SECOND FORM. 'bulk': how many values and letters a reading holds, each counted each time it is reached (what is shared counts as often as it is met; a slice's spare places count too). A statement '..UptoSaid' is the law's where the arguments, and the package variables that the reading takes, are together of bulk at most 1048576: NARROWER than '..Said'. Prove '..Said' where nothing that the law and all that it calls make is longer than what came in: it says more and counts as full. Else prove '..UptoSaid'. A law counts once. -/
mutual
def uptoBulk {H : Type} : DataW H → Nat
  | .lit (.string bytes) => bytes.length + 1
  | .lit _ => 1
  | .nil => 1
  | .ptr d => uptoBulk d + 1
  | .slice elems spare => uptoBulkAll elems + uptoBulkAll spare + 1
  | .agg parts => uptoBulkAll parts + 1
  | .iface _ d => uptoBulk d + 1
  | .map entries => uptoBulkEntries entries + 1
  | .held _ => 1
def uptoBulkAll {H : Type} : List (DataW H) → Nat
  | [] => 0
  | d :: r => uptoBulk d + uptoBulkAll r
def uptoBulkEntries {H : Type} : List (Lit × DataW H) → Nat
  | [] => 0
  | x :: r => uptoBulkEntry x + uptoBulkEntries r
def uptoBulkEntry {H : Type} : Lit × DataW H → Nat
  | (.string bytes, d) => bytes.length + uptoBulk d + 1
  | (_, d) => uptoBulk d + 1
 end
def uptoSmall : (H : Type) → List (DataW H) → Bool := fun _ ds => decide (uptoBulkAll ds ≤ 1048576)
def OpenSpec.upto (s : _root_.Go.ChangeSpec) : _root_.Go.OpenSpec := { _root_.Go.OpenSpec.ofChange s with cond := some uptoSmall }

/-- 'battenlaw07.EnvStays', WHERE WHAT IT READS IS OF BULK AT MOST 1048576: true; the input reads as it did. -/
def envStaysUptoRow : OpenClaim := { program := "ytnoghkpofpaeeaa", sum := "4d9282da57254d48222560fef6c9f7059b9189a029e52ce24ea733562bcd7920", func := "batten/battenlaw07.EnvStays", spec := "envStays", unfollowed := true, recurses := true, loops := true, apart := false, narrowed := true }
def EnvStaysUptoSaid : Prop := envStaysUptoRow.holds Try.pinned (OpenSpec.upto envStaysSpec)

/-- 'battenlaw07.EnvWrong', WHERE WHAT IT READS IS OF BULK AT MOST 1048576: true; the input reads as it did. -/
def envWrongUptoRow : OpenClaim := { program := "ytnoghkpofpaeeaa", sum := "4d9282da57254d48222560fef6c9f7059b9189a029e52ce24ea733562bcd7920", func := "batten/battenlaw07.EnvWrong", spec := "envWrong", unfollowed := true, recurses := true, loops := true, apart := false, narrowed := true }
def EnvWrongUptoSaid : Prop := envWrongUptoRow.holds Try.pinned (OpenSpec.upto envWrongSpec)

/-- 'battenlaw07.EnvWith', WHERE WHAT IT READS IS OF BULK AT MOST 1048576: true; the input reads as it did. -/
def envWithUptoRow : OpenClaim := { program := "ytnoghkpofpaeeaa", sum := "4d9282da57254d48222560fef6c9f7059b9189a029e52ce24ea733562bcd7920", func := "batten/battenlaw07.EnvWith", spec := "envWith", inPlace := ["maps.clone"], unfollowed := true, recurses := true, loops := true, apart := false, narrowed := true }
def EnvWithUptoSaid : Prop := envWithUptoRow.holds Try.pinned (OpenSpec.upto envWithSpec)

/-- 'battenlaw07.EnvNil', WHERE WHAT IT READS IS OF BULK AT MOST 1048576: true; the input reads as it did. -/
def envNilUptoRow : OpenClaim := { program := "ytnoghkpofpaeeaa", sum := "4d9282da57254d48222560fef6c9f7059b9189a029e52ce24ea733562bcd7920", func := "batten/battenlaw07.EnvNil", spec := "envNil", inPlace := ["maps.clone"], unfollowed := true, recurses := true, loops := true, apart := false, narrowed := true }
def EnvNilUptoSaid : Prop := envNilUptoRow.holds Try.pinned (OpenSpec.upto envNilSpec)

end Rows
end Go.Proofs.Ytnoghkpofpaeeaa
