/-
  NARROWER THAN 'FOR EVERY INPUT', by the rows' own cells (each row's printed sentence says how): AxiomsLater: loops · AxiomsPlays: loops · AxiomsRests: loops · AxiomsNil: loops · RulesNumbers: loops · RulesNil: loops · RulesFields: loops · RulesLists: loops · RulesLater: loops.
  DERIVED. THE GIVEN ROWS OF THIS SEAT. 9 by the template 'for every input the law returns true; each argument reads behind the call as it read before'; 0 by the template 'total and deterministic' (their statements: YtfljbnhhkdaobaaGreatTotals.lean).
  GIVEN WITH THE SEED: the statements are not yours to turn. If you find one false, say at which input.
  Laid BY PROGRAM, IN A SANDBOX (cutbox-rows.mjs): the forced cells as the released guide's own fill.sh prints them over the translation f6e135cf45aeccd1… (all of the seat's roots in one cut). By AI agents, Wed Nov 11 2026. No macro, syntax, notation, axiom, sorry.
-/
import Derived.Test.YtfljbnhhkdaobaaGreatChecked
import GoSem.Claim
import GoSem.ClaimJoined
import GoSem.ClaimMapViews
import Derived.JoinedTies
import Derived.KernelRfl
namespace Go.Proofs.YtfljbnhhkdaobaaGreat
/- THE CELL 'sum', in the pinned program and in every row, IS THE sha256 OF THE DUMP (.gsa) THAT YtfljbnhhkdaobaaGreatProg.lean LOADS. Nothing in Lean hashes anything: it is a label: what it is worth is what the hold of that sum in a sandbox is worth. -/
noncomputable def Tryz.pinned : Pinned := { name := "ytfljbnhhkdaobaagreat", sum := "f6e135cf45aeccd16c4ba6b7a2bb997d42db9bb1f9aacaa2ac21562a80cc5836", checked := Tryz.checked }
namespace Rows
def none {H : Type} : Left H := { results := [], args := [] }

/-- 'battenlaw29.AxiomsLater': WHATEVER THE INPUT: true; the input reads as it did. -/
def axiomsLaterSpec : ChangeSpec := { name := "axiomsLater", fn := fun _ => fun
  | [d1, d2] => { results := [.lit (.bool true)], args := [d1, d2] }
  | _ => none }
def axiomsLaterRow : OpenClaim := { program := "ytfljbnhhkdaobaagreat", sum := "f6e135cf45aeccd16c4ba6b7a2bb997d42db9bb1f9aacaa2ac21562a80cc5836", func := "batten/battenlaw29.AxiomsLater", spec := "axiomsLater", unfollowed := true, recurses := true, loops := true, apart := false }
def AxiomsLaterSaid : Prop := axiomsLaterRow.holds Tryz.pinned (OpenSpec.ofChange axiomsLaterSpec)

/-- ITS FALSE NEIGHBOUR: 'it returns false'. Refute it at one input. -/
def axiomsLaterWrong : ChangeSpec := { name := "axiomsLater", fn := fun _ => fun
  | [d1, d2] => { results := [.lit (.bool false)], args := [d1, d2] }
  | _ => none }
def AxiomsLaterWrongFalsely : Prop := axiomsLaterRow.holds Tryz.pinned (OpenSpec.ofChange axiomsLaterWrong)

/-- 'battenlaw29.AxiomsPlays': WHATEVER THE INPUT: true; the input reads as it did. -/
def axiomsPlaysSpec : ChangeSpec := { name := "axiomsPlays", fn := fun _ => fun
  | [d1, d2, d3] => { results := [.lit (.bool true)], args := [d1, d2, d3] }
  | _ => none }
def axiomsPlaysRow : OpenClaim := { program := "ytfljbnhhkdaobaagreat", sum := "f6e135cf45aeccd16c4ba6b7a2bb997d42db9bb1f9aacaa2ac21562a80cc5836", func := "batten/battenlaw29.AxiomsPlays", spec := "axiomsPlays", unfollowed := true, recurses := true, loops := true, apart := false }
def AxiomsPlaysSaid : Prop := axiomsPlaysRow.holds Tryz.pinned (OpenSpec.ofChange axiomsPlaysSpec)

/-- ITS FALSE NEIGHBOUR: 'it returns false'. Refute it at one input. -/
def axiomsPlaysWrong : ChangeSpec := { name := "axiomsPlays", fn := fun _ => fun
  | [d1, d2, d3] => { results := [.lit (.bool false)], args := [d1, d2, d3] }
  | _ => none }
def AxiomsPlaysWrongFalsely : Prop := axiomsPlaysRow.holds Tryz.pinned (OpenSpec.ofChange axiomsPlaysWrong)

/-- 'battenlaw29.AxiomsRests': WHATEVER THE INPUT: true; the input reads as it did. -/
def axiomsRestsSpec : ChangeSpec := { name := "axiomsRests", fn := fun _ => fun
  | [d1, d2, d3] => { results := [.lit (.bool true)], args := [d1, d2, d3] }
  | _ => none }
def axiomsRestsRow : OpenClaim := { program := "ytfljbnhhkdaobaagreat", sum := "f6e135cf45aeccd16c4ba6b7a2bb997d42db9bb1f9aacaa2ac21562a80cc5836", func := "batten/battenlaw29.AxiomsRests", spec := "axiomsRests", unfollowed := true, recurses := true, loops := true, apart := false }
def AxiomsRestsSaid : Prop := axiomsRestsRow.holds Tryz.pinned (OpenSpec.ofChange axiomsRestsSpec)

/-- ITS FALSE NEIGHBOUR: 'it returns false'. Refute it at one input. -/
def axiomsRestsWrong : ChangeSpec := { name := "axiomsRests", fn := fun _ => fun
  | [d1, d2, d3] => { results := [.lit (.bool false)], args := [d1, d2, d3] }
  | _ => none }
def AxiomsRestsWrongFalsely : Prop := axiomsRestsRow.holds Tryz.pinned (OpenSpec.ofChange axiomsRestsWrong)

/-- 'battenlaw29.AxiomsNil': WHATEVER THE INPUT: true; the input reads as it did. -/
def axiomsNilSpec : ChangeSpec := { name := "axiomsNil", fn := fun _ => fun
  | [d1, d2] => { results := [.lit (.bool true)], args := [d1, d2] }
  | _ => none }
def axiomsNilRow : OpenClaim := { program := "ytfljbnhhkdaobaagreat", sum := "f6e135cf45aeccd16c4ba6b7a2bb997d42db9bb1f9aacaa2ac21562a80cc5836", func := "batten/battenlaw29.AxiomsNil", spec := "axiomsNil", unfollowed := true, recurses := true, loops := true, apart := false }
def AxiomsNilSaid : Prop := axiomsNilRow.holds Tryz.pinned (OpenSpec.ofChange axiomsNilSpec)

/-- ITS FALSE NEIGHBOUR: 'it returns false'. Refute it at one input. -/
def axiomsNilWrong : ChangeSpec := { name := "axiomsNil", fn := fun _ => fun
  | [d1, d2] => { results := [.lit (.bool false)], args := [d1, d2] }
  | _ => none }
def AxiomsNilWrongFalsely : Prop := axiomsNilRow.holds Tryz.pinned (OpenSpec.ofChange axiomsNilWrong)

/-- 'battenlaw08.RulesNumbers': WHATEVER THE INPUT: true; the input reads as it did. -/
def rulesNumbersSpec : ChangeSpec := { name := "rulesNumbers", fn := fun _ => fun
  | [d1, d2, d3, d4] => { results := [.lit (.bool true)], args := [d1, d2, d3, d4] }
  | _ => none }
def rulesNumbersRow : OpenClaim := { program := "ytfljbnhhkdaobaagreat", sum := "f6e135cf45aeccd16c4ba6b7a2bb997d42db9bb1f9aacaa2ac21562a80cc5836", func := "batten/battenlaw08.RulesNumbers", spec := "rulesNumbers", unfollowed := true, recurses := true, loops := true, apart := false }
def RulesNumbersSaid : Prop := rulesNumbersRow.holds Tryz.pinned (OpenSpec.ofChange rulesNumbersSpec)

/-- ITS FALSE NEIGHBOUR: 'it returns false'. Refute it at one input. -/
def rulesNumbersWrong : ChangeSpec := { name := "rulesNumbers", fn := fun _ => fun
  | [d1, d2, d3, d4] => { results := [.lit (.bool false)], args := [d1, d2, d3, d4] }
  | _ => none }
def RulesNumbersWrongFalsely : Prop := rulesNumbersRow.holds Tryz.pinned (OpenSpec.ofChange rulesNumbersWrong)

/-- 'battenlaw08.RulesNil': WHATEVER THE INPUT: true; the input reads as it did. -/
def rulesNilSpec : ChangeSpec := { name := "rulesNil", fn := fun _ => fun
  | [d1, d2, d3] => { results := [.lit (.bool true)], args := [d1, d2, d3] }
  | _ => none }
def rulesNilRow : OpenClaim := { program := "ytfljbnhhkdaobaagreat", sum := "f6e135cf45aeccd16c4ba6b7a2bb997d42db9bb1f9aacaa2ac21562a80cc5836", func := "batten/battenlaw08.RulesNil", spec := "rulesNil", unfollowed := true, recurses := true, loops := true, apart := false }
def RulesNilSaid : Prop := rulesNilRow.holds Tryz.pinned (OpenSpec.ofChange rulesNilSpec)

/-- ITS FALSE NEIGHBOUR: 'it returns false'. Refute it at one input. -/
def rulesNilWrong : ChangeSpec := { name := "rulesNil", fn := fun _ => fun
  | [d1, d2, d3] => { results := [.lit (.bool false)], args := [d1, d2, d3] }
  | _ => none }
def RulesNilWrongFalsely : Prop := rulesNilRow.holds Tryz.pinned (OpenSpec.ofChange rulesNilWrong)

/-- 'battenlaw08.RulesFields': WHATEVER THE INPUT: true; the input reads as it did. -/
def rulesFieldsSpec : ChangeSpec := { name := "rulesFields", fn := fun _ => fun
  | [d1, d2, d3, d4, d5] => { results := [.lit (.bool true)], args := [d1, d2, d3, d4, d5] }
  | _ => none }
def rulesFieldsRow : OpenClaim := { program := "ytfljbnhhkdaobaagreat", sum := "f6e135cf45aeccd16c4ba6b7a2bb997d42db9bb1f9aacaa2ac21562a80cc5836", func := "batten/battenlaw08.RulesFields", spec := "rulesFields", unfollowed := true, recurses := true, loops := true, apart := false }
def RulesFieldsSaid : Prop := rulesFieldsRow.holds Tryz.pinned (OpenSpec.ofChange rulesFieldsSpec)

/-- ITS FALSE NEIGHBOUR: 'it returns false'. Refute it at one input. -/
def rulesFieldsWrong : ChangeSpec := { name := "rulesFields", fn := fun _ => fun
  | [d1, d2, d3, d4, d5] => { results := [.lit (.bool false)], args := [d1, d2, d3, d4, d5] }
  | _ => none }
def RulesFieldsWrongFalsely : Prop := rulesFieldsRow.holds Tryz.pinned (OpenSpec.ofChange rulesFieldsWrong)

/-- 'battenlaw08.RulesLists': WHATEVER THE INPUT: true; the input reads as it did. -/
def rulesListsSpec : ChangeSpec := { name := "rulesLists", fn := fun _ => fun
  | [d1, d2, d3, d4, d5, d6, d7] => { results := [.lit (.bool true)], args := [d1, d2, d3, d4, d5, d6, d7] }
  | _ => none }
def rulesListsRow : OpenClaim := { program := "ytfljbnhhkdaobaagreat", sum := "f6e135cf45aeccd16c4ba6b7a2bb997d42db9bb1f9aacaa2ac21562a80cc5836", func := "batten/battenlaw08.RulesLists", spec := "rulesLists", unfollowed := true, recurses := true, loops := true, apart := false }
def RulesListsSaid : Prop := rulesListsRow.holds Tryz.pinned (OpenSpec.ofChange rulesListsSpec)

/-- ITS FALSE NEIGHBOUR: 'it returns false'. Refute it at one input. -/
def rulesListsWrong : ChangeSpec := { name := "rulesLists", fn := fun _ => fun
  | [d1, d2, d3, d4, d5, d6, d7] => { results := [.lit (.bool false)], args := [d1, d2, d3, d4, d5, d6, d7] }
  | _ => none }
def RulesListsWrongFalsely : Prop := rulesListsRow.holds Tryz.pinned (OpenSpec.ofChange rulesListsWrong)

/-- 'battenlaw08.RulesLater': WHATEVER THE INPUT: true; the input reads as it did. -/
def rulesLaterSpec : ChangeSpec := { name := "rulesLater", fn := fun _ => fun
  | [d1, d2, d3] => { results := [.lit (.bool true)], args := [d1, d2, d3] }
  | _ => none }
def rulesLaterRow : OpenClaim := { program := "ytfljbnhhkdaobaagreat", sum := "f6e135cf45aeccd16c4ba6b7a2bb997d42db9bb1f9aacaa2ac21562a80cc5836", func := "batten/battenlaw08.RulesLater", spec := "rulesLater", unfollowed := true, recurses := true, loops := true, apart := false }
def RulesLaterSaid : Prop := rulesLaterRow.holds Tryz.pinned (OpenSpec.ofChange rulesLaterSpec)

/-- ITS FALSE NEIGHBOUR: 'it returns false'. Refute it at one input. -/
def rulesLaterWrong : ChangeSpec := { name := "rulesLater", fn := fun _ => fun
  | [d1, d2, d3] => { results := [.lit (.bool false)], args := [d1, d2, d3] }
  | _ => none }
def RulesLaterWrongFalsely : Prop := rulesLaterRow.holds Tryz.pinned (OpenSpec.ofChange rulesLaterWrong)

/- THE SECOND FORM. 'bulk': how many values and letters a reading holds, each counted each time it is reached (what is shared counts as often as it is met; a slice's spare places count too). A statement '..UptoSaid' is the law's where the arguments, and the package variables that the reading takes, are together of bulk at most 1048576: NARROWER than '..Said'. Prove '..Said' where nothing that the law and all that it calls make is longer than what came in: it says more and counts as full. Else prove '..UptoSaid'. A law counts once. -/
mutual
def uptoBulk {H : Type} : DataW H → Nat
  | .lit (.string bytes) => bytes.length + 1
  | .lit _ => 1
  | .nil => 1
  | .ptr d => uptoBulk d + 1
  | .slice elems spare => uptoBulkAll elems + uptoBulkAll spare + 1
  | .agg parts => uptoBulkAll parts + 1
  | .iface _ d => uptoBulk d + 1
  | .map entries => uptoBulkEntries entries + 1
  | .held _ => 1
def uptoBulkAll {H : Type} : List (DataW H) → Nat
  | [] => 0
  | d :: r => uptoBulk d + uptoBulkAll r
def uptoBulkEntries {H : Type} : List (Lit × DataW H) → Nat
  | [] => 0
  | x :: r => uptoBulkEntry x + uptoBulkEntries r
def uptoBulkEntry {H : Type} : Lit × DataW H → Nat
  | (.string bytes, d) => bytes.length + uptoBulk d + 1
  | (_, d) => uptoBulk d + 1
 end
def uptoSmall : (H : Type) → List (DataW H) → Bool := fun _ ds => decide (uptoBulkAll ds ≤ 1048576)
def OpenSpec.upto (s : _root_.Go.ChangeSpec) : _root_.Go.OpenSpec := { _root_.Go.OpenSpec.ofChange s with cond := some uptoSmall }

/-- 'battenlaw29.AxiomsLater', WHERE WHAT IT READS IS OF BULK AT MOST 1048576: true; the input reads as it did. -/
def axiomsLaterUptoRow : OpenClaim := { program := "ytfljbnhhkdaobaagreat", sum := "f6e135cf45aeccd16c4ba6b7a2bb997d42db9bb1f9aacaa2ac21562a80cc5836", func := "batten/battenlaw29.AxiomsLater", spec := "axiomsLater", unfollowed := true, recurses := true, loops := true, apart := false, narrowed := true }
def AxiomsLaterUptoSaid : Prop := axiomsLaterUptoRow.holds Tryz.pinned (OpenSpec.upto axiomsLaterSpec)

/-- 'battenlaw29.AxiomsPlays', WHERE WHAT IT READS IS OF BULK AT MOST 1048576: true; the input reads as it did. -/
def axiomsPlaysUptoRow : OpenClaim := { program := "ytfljbnhhkdaobaagreat", sum := "f6e135cf45aeccd16c4ba6b7a2bb997d42db9bb1f9aacaa2ac21562a80cc5836", func := "batten/battenlaw29.AxiomsPlays", spec := "axiomsPlays", unfollowed := true, recurses := true, loops := true, apart := false, narrowed := true }
def AxiomsPlaysUptoSaid : Prop := axiomsPlaysUptoRow.holds Tryz.pinned (OpenSpec.upto axiomsPlaysSpec)

/-- 'battenlaw29.AxiomsRests', WHERE WHAT IT READS IS OF BULK AT MOST 1048576: true; the input reads as it did. -/
def axiomsRestsUptoRow : OpenClaim := { program := "ytfljbnhhkdaobaagreat", sum := "f6e135cf45aeccd16c4ba6b7a2bb997d42db9bb1f9aacaa2ac21562a80cc5836", func := "batten/battenlaw29.AxiomsRests", spec := "axiomsRests", unfollowed := true, recurses := true, loops := true, apart := false, narrowed := true }
def AxiomsRestsUptoSaid : Prop := axiomsRestsUptoRow.holds Tryz.pinned (OpenSpec.upto axiomsRestsSpec)

/-- 'battenlaw29.AxiomsNil', WHERE WHAT IT READS IS OF BULK AT MOST 1048576: true; the input reads as it did. -/
def axiomsNilUptoRow : OpenClaim := { program := "ytfljbnhhkdaobaagreat", sum := "f6e135cf45aeccd16c4ba6b7a2bb997d42db9bb1f9aacaa2ac21562a80cc5836", func := "batten/battenlaw29.AxiomsNil", spec := "axiomsNil", unfollowed := true, recurses := true, loops := true, apart := false, narrowed := true }
def AxiomsNilUptoSaid : Prop := axiomsNilUptoRow.holds Tryz.pinned (OpenSpec.upto axiomsNilSpec)

/-- 'battenlaw08.RulesNumbers', WHERE WHAT IT READS IS OF BULK AT MOST 1048576: true; the input reads as it did. -/
def rulesNumbersUptoRow : OpenClaim := { program := "ytfljbnhhkdaobaagreat", sum := "f6e135cf45aeccd16c4ba6b7a2bb997d42db9bb1f9aacaa2ac21562a80cc5836", func := "batten/battenlaw08.RulesNumbers", spec := "rulesNumbers", unfollowed := true, recurses := true, loops := true, apart := false, narrowed := true }
def RulesNumbersUptoSaid : Prop := rulesNumbersUptoRow.holds Tryz.pinned (OpenSpec.upto rulesNumbersSpec)

/-- 'battenlaw08.RulesNil', WHERE WHAT IT READS IS OF BULK AT MOST 1048576: true; the input reads as it did. -/
def rulesNilUptoRow : OpenClaim := { program := "ytfljbnhhkdaobaagreat", sum := "f6e135cf45aeccd16c4ba6b7a2bb997d42db9bb1f9aacaa2ac21562a80cc5836", func := "batten/battenlaw08.RulesNil", spec := "rulesNil", unfollowed := true, recurses := true, loops := true, apart := false, narrowed := true }
def RulesNilUptoSaid : Prop := rulesNilUptoRow.holds Tryz.pinned (OpenSpec.upto rulesNilSpec)

/-- 'battenlaw08.RulesFields', WHERE WHAT IT READS IS OF BULK AT MOST 1048576: true; the input reads as it did. -/
def rulesFieldsUptoRow : OpenClaim := { program := "ytfljbnhhkdaobaagreat", sum := "f6e135cf45aeccd16c4ba6b7a2bb997d42db9bb1f9aacaa2ac21562a80cc5836", func := "batten/battenlaw08.RulesFields", spec := "rulesFields", unfollowed := true, recurses := true, loops := true, apart := false, narrowed := true }
def RulesFieldsUptoSaid : Prop := rulesFieldsUptoRow.holds Tryz.pinned (OpenSpec.upto rulesFieldsSpec)

/-- 'battenlaw08.RulesLists', WHERE WHAT IT READS IS OF BULK AT MOST 1048576: true; the input reads as it did. -/
def rulesListsUptoRow : OpenClaim := { program := "ytfljbnhhkdaobaagreat", sum := "f6e135cf45aeccd16c4ba6b7a2bb997d42db9bb1f9aacaa2ac21562a80cc5836", func := "batten/battenlaw08.RulesLists", spec := "rulesLists", unfollowed := true, recurses := true, loops := true, apart := false, narrowed := true }
def RulesListsUptoSaid : Prop := rulesListsUptoRow.holds Tryz.pinned (OpenSpec.upto rulesListsSpec)

/-- 'battenlaw08.RulesLater', WHERE WHAT IT READS IS OF BULK AT MOST 1048576: true; the input reads as it did. -/
def rulesLaterUptoRow : OpenClaim := { program := "ytfljbnhhkdaobaagreat", sum := "f6e135cf45aeccd16c4ba6b7a2bb997d42db9bb1f9aacaa2ac21562a80cc5836", func := "batten/battenlaw08.RulesLater", spec := "rulesLater", unfollowed := true, recurses := true, loops := true, apart := false, narrowed := true }
def RulesLaterUptoSaid : Prop := rulesLaterUptoRow.holds Tryz.pinned (OpenSpec.upto rulesLaterSpec)

end Rows
end Go.Proofs.YtfljbnhhkdaobaaGreat
