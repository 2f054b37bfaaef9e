/-
  NARROWER THAN 'FOR EVERY INPUT', by the rows' own cells (each row's printed sentence says how): TermSpines: loops · TermNames: loops.
  DERIVED. THE GIVEN ROWS OF THIS SEAT. 3 by the template 'for every input the law returns true; each argument reads behind the call as it read before'; 0 by the template 'total and deterministic' (their statements: YtmmhamabkiffaaaTotals.lean).
  GIVEN WITH THE SEED: the statements are not yours to turn. If you find one false, say at which input.
  Laid BY PROGRAM, IN A SANDBOX (cutbox-rows.mjs): the forced cells as the released guide's own fill.sh prints them over the translation a041ade507e5ddde… (all of the seat's roots in one cut). By AI agents, Wed Nov 11 2026. No macro, syntax, notation, axiom, sorry.
-/
import Derived.Test.YtmmhamabkiffaaaChecked
import GoSem.Claim
import GoSem.ClaimJoined
import GoSem.ClaimMapViews
import Derived.JoinedTies
import Derived.KernelRfl
namespace Go.Proofs.Ytmmhamabkiffaaa
/- THE CELL 'sum', in the pinned program and in every row, IS THE sha256 OF THE DUMP (.gsa) THAT YtmmhamabkiffaaaProg.lean LOADS. Nothing in Lean hashes anything: it is a label: what it is worth is what the hold of that sum in a sandbox is worth. -/
noncomputable def Try.pinned : Pinned := { name := "ytmmhamabkiffaaa", sum := "a041ade507e5dddeeb3416bf7e9d81664d7257d8822f0373c6144b06b5468a06", checked := Try.checked }
namespace Rows
def none {H : Type} : Left H := { results := [], args := [] }

/-- 'battenlaw03.TermBounds': WHATEVER THE INPUT: true; the input reads as it did. -/
def termBoundsSpec : ChangeSpec := { name := "termBounds", fn := fun _ => fun
  | [d1, d2] => { results := [.lit (.bool true)], args := [d1, d2] }
  | _ => none }
def termBoundsRow : OpenClaim := { program := "ytmmhamabkiffaaa", sum := "a041ade507e5dddeeb3416bf7e9d81664d7257d8822f0373c6144b06b5468a06", func := "batten/battenlaw03.TermBounds", spec := "termBounds", unfollowed := true, recurses := true, apart := false }
def TermBoundsSaid : Prop := termBoundsRow.holds Try.pinned (OpenSpec.ofChange termBoundsSpec)

/-- ITS FALSE NEIGHBOUR: 'it returns false'. Refute it at one input. -/
def termBoundsWrong : ChangeSpec := { name := "termBounds", fn := fun _ => fun
  | [d1, d2] => { results := [.lit (.bool false)], args := [d1, d2] }
  | _ => none }
def TermBoundsWrongFalsely : Prop := termBoundsRow.holds Try.pinned (OpenSpec.ofChange termBoundsWrong)

/-- 'battenlaw03.TermSpines': WHATEVER THE INPUT: true; the input reads as it did. -/
def termSpinesSpec : ChangeSpec := { name := "termSpines", fn := fun _ => fun
  | [d1, d2] => { results := [.lit (.bool true)], args := [d1, d2] }
  | _ => none }
def termSpinesRow : OpenClaim := { program := "ytmmhamabkiffaaa", sum := "a041ade507e5dddeeb3416bf7e9d81664d7257d8822f0373c6144b06b5468a06", func := "batten/battenlaw03.TermSpines", spec := "termSpines", unfollowed := true, recurses := true, loops := true, apart := false }
def TermSpinesSaid : Prop := termSpinesRow.holds Try.pinned (OpenSpec.ofChange termSpinesSpec)

/-- ITS FALSE NEIGHBOUR: 'it returns false'. Refute it at one input. -/
def termSpinesWrong : ChangeSpec := { name := "termSpines", fn := fun _ => fun
  | [d1, d2] => { results := [.lit (.bool false)], args := [d1, d2] }
  | _ => none }
def TermSpinesWrongFalsely : Prop := termSpinesRow.holds Try.pinned (OpenSpec.ofChange termSpinesWrong)

/-- 'battenlaw03.TermNames': WHATEVER THE INPUT: true; the input reads as it did. -/
def termNamesSpec : ChangeSpec := { name := "termNames", fn := fun _ => fun
  | [d1, d2] => { results := [.lit (.bool true)], args := [d1, d2] }
  | _ => none }
def termNamesRow : OpenClaim := { program := "ytmmhamabkiffaaa", sum := "a041ade507e5dddeeb3416bf7e9d81664d7257d8822f0373c6144b06b5468a06", func := "batten/battenlaw03.TermNames", spec := "termNames", unfollowed := true, recurses := true, loops := true, apart := false }
def TermNamesSaid : Prop := termNamesRow.holds Try.pinned (OpenSpec.ofChange termNamesSpec)

/-- ITS FALSE NEIGHBOUR: 'it returns false'. Refute it at one input. -/
def termNamesWrong : ChangeSpec := { name := "termNames", fn := fun _ => fun
  | [d1, d2] => { results := [.lit (.bool false)], args := [d1, d2] }
  | _ => none }
def TermNamesWrongFalsely : Prop := termNamesRow.holds Try.pinned (OpenSpec.ofChange termNamesWrong)

/- THE SECOND FORM. 'bulk': how many values and letters a reading holds, each counted each time it is reached (what is shared counts as often as it is met; a slice's spare places count too). A statement '..UptoSaid' is the law's where the arguments, and the package variables that the reading takes, are together of bulk at most 1048576: NARROWER than '..Said'. Prove '..Said' where nothing that the law and all that it calls make is longer than what came in: it says more and counts as full. Else prove '..UptoSaid'. A law counts once. -/
mutual
def uptoBulk {H : Type} : DataW H → Nat
  | .lit (.string bytes) => bytes.length + 1
  | .lit _ => 1
  | .nil => 1
  | .ptr d => uptoBulk d + 1
  | .slice elems spare => uptoBulkAll elems + uptoBulkAll spare + 1
  | .agg parts => uptoBulkAll parts + 1
  | .iface _ d => uptoBulk d + 1
  | .map entries => uptoBulkEntries entries + 1
  | .held _ => 1
def uptoBulkAll {H : Type} : List (DataW H) → Nat
  | [] => 0
  | d :: r => uptoBulk d + uptoBulkAll r
def uptoBulkEntries {H : Type} : List (Lit × DataW H) → Nat
  | [] => 0
  | x :: r => uptoBulkEntry x + uptoBulkEntries r
def uptoBulkEntry {H : Type} : Lit × DataW H → Nat
  | (.string bytes, d) => bytes.length + uptoBulk d + 1
  | (_, d) => uptoBulk d + 1
 end
def uptoSmall : (H : Type) → List (DataW H) → Bool := fun _ ds => decide (uptoBulkAll ds ≤ 1048576)
def OpenSpec.upto (s : _root_.Go.ChangeSpec) : _root_.Go.OpenSpec := { _root_.Go.OpenSpec.ofChange s with cond := some uptoSmall }

/-- 'battenlaw03.TermBounds', WHERE WHAT IT READS IS OF BULK AT MOST 1048576: true; the input reads as it did. -/
def termBoundsUptoRow : OpenClaim := { program := "ytmmhamabkiffaaa", sum := "a041ade507e5dddeeb3416bf7e9d81664d7257d8822f0373c6144b06b5468a06", func := "batten/battenlaw03.TermBounds", spec := "termBounds", unfollowed := true, recurses := true, apart := false, narrowed := true }
def TermBoundsUptoSaid : Prop := termBoundsUptoRow.holds Try.pinned (OpenSpec.upto termBoundsSpec)

/-- 'battenlaw03.TermSpines', WHERE WHAT IT READS IS OF BULK AT MOST 1048576: true; the input reads as it did. -/
def termSpinesUptoRow : OpenClaim := { program := "ytmmhamabkiffaaa", sum := "a041ade507e5dddeeb3416bf7e9d81664d7257d8822f0373c6144b06b5468a06", func := "batten/battenlaw03.TermSpines", spec := "termSpines", unfollowed := true, recurses := true, loops := true, apart := false, narrowed := true }
def TermSpinesUptoSaid : Prop := termSpinesUptoRow.holds Try.pinned (OpenSpec.upto termSpinesSpec)

/-- 'battenlaw03.TermNames', WHERE WHAT IT READS IS OF BULK AT MOST 1048576: true; the input reads as it did. -/
def termNamesUptoRow : OpenClaim := { program := "ytmmhamabkiffaaa", sum := "a041ade507e5dddeeb3416bf7e9d81664d7257d8822f0373c6144b06b5468a06", func := "batten/battenlaw03.TermNames", spec := "termNames", unfollowed := true, recurses := true, loops := true, apart := false, narrowed := true }
def TermNamesUptoSaid : Prop := termNamesUptoRow.holds Try.pinned (OpenSpec.upto termNamesSpec)

end Rows
end Go.Proofs.Ytmmhamabkiffaaa
