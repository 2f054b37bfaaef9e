/-
  No cell of these rows narrows 'for every input' (looked for: loops, veiled, ifaces, maps, wideKeys, modest, calm, conditions, laid).
  DERIVED. THE GIVEN ROWS OF THIS SEAT. 5 by the template 'for every input the law returns true; each argument reads behind the call as it read before'; 0 by the template 'total and deterministic' (their statements: YtcjkodcamkcljaaTotals.lean).
  GIVEN WITH THE SEED: the statements are not yours to turn. If you find one false, say at which input.
  Laid BY PROGRAM, IN A SANDBOX (cutbox-rows.mjs): the forced cells as the released guide's own fill.sh prints them over the translation 9c70eb8b4e94307d… (all of the seat's roots in one cut). By AI agents, Wed Nov 11 2026. No macro, syntax, notation, axiom, sorry.
-/
import Derived.Test.YtcjkodcamkcljaaChecked
import GoSem.Claim
import GoSem.ClaimJoined
import GoSem.ClaimMapViews
import Derived.JoinedTies
import Derived.KernelRfl
namespace Go.Proofs.Ytcjkodcamkcljaa
/- THE CELL 'sum', in the pinned program and in every row, IS THE sha256 OF THE DUMP (.gsa) THAT YtcjkodcamkcljaaProg.lean LOADS. Nothing in Lean hashes anything: it is a label: what it is worth is what the hold of that sum in a sandbox is worth. -/
noncomputable def Try.pinned : Pinned := { name := "ytcjkodcamkcljaa", sum := "9c70eb8b4e94307dcabc22ade2e88aba409354775174c32dd874b27c3cd1b00f", checked := Try.checked }
namespace Rows
def none {H : Type} : Left H := { results := [], args := [] }

/-- 'battenlaw01.OctetPuts': WHATEVER THE INPUT: true; the input reads as it did. -/
def octetPutsSpec : ChangeSpec := { name := "octetPuts", fn := fun _ => fun
  | [d1, d2, d3] => { results := [.lit (.bool true)], args := [d1, d2, d3] }
  | _ => none }
def octetPutsRow : OpenClaim := { program := "ytcjkodcamkcljaa", sum := "9c70eb8b4e94307dcabc22ade2e88aba409354775174c32dd874b27c3cd1b00f", func := "batten/battenlaw01.OctetPuts", spec := "octetPuts", unfollowed := true, recurses := true, apart := false }
def OctetPutsSaid : Prop := octetPutsRow.holds Try.pinned (OpenSpec.ofChange octetPutsSpec)

/-- ITS FALSE NEIGHBOUR: 'it returns false'. Refute it at one input. -/
def octetPutsWrong : ChangeSpec := { name := "octetPuts", fn := fun _ => fun
  | [d1, d2, d3] => { results := [.lit (.bool false)], args := [d1, d2, d3] }
  | _ => none }
def OctetPutsWrongFalsely : Prop := octetPutsRow.holds Try.pinned (OpenSpec.ofChange octetPutsWrong)

/-- 'battenlaw01.OctetPrefix': WHATEVER THE INPUT: true; the input reads as it did. -/
def octetPrefixSpec : ChangeSpec := { name := "octetPrefix", fn := fun _ => fun
  | [d1, d2, d3] => { results := [.lit (.bool true)], args := [d1, d2, d3] }
  | _ => none }
def octetPrefixRow : OpenClaim := { program := "ytcjkodcamkcljaa", sum := "9c70eb8b4e94307dcabc22ade2e88aba409354775174c32dd874b27c3cd1b00f", func := "batten/battenlaw01.OctetPrefix", spec := "octetPrefix", unfollowed := true, recurses := true, apart := false }
def OctetPrefixSaid : Prop := octetPrefixRow.holds Try.pinned (OpenSpec.ofChange octetPrefixSpec)

/-- ITS FALSE NEIGHBOUR: 'it returns false'. Refute it at one input. -/
def octetPrefixWrong : ChangeSpec := { name := "octetPrefix", fn := fun _ => fun
  | [d1, d2, d3] => { results := [.lit (.bool false)], args := [d1, d2, d3] }
  | _ => none }
def OctetPrefixWrongFalsely : Prop := octetPrefixRow.holds Try.pinned (OpenSpec.ofChange octetPrefixWrong)

/-- 'battenlaw01.OctetBack': WHATEVER THE INPUT: true; the input reads as it did. -/
def octetBackSpec : ChangeSpec := { name := "octetBack", fn := fun _ => fun
  | [d1, d2, d3, d4] => { results := [.lit (.bool true)], args := [d1, d2, d3, d4] }
  | _ => none }
def octetBackRow : OpenClaim := { program := "ytcjkodcamkcljaa", sum := "9c70eb8b4e94307dcabc22ade2e88aba409354775174c32dd874b27c3cd1b00f", func := "batten/battenlaw01.OctetBack", spec := "octetBack", unfollowed := true, recurses := true, apart := false }
def OctetBackSaid : Prop := octetBackRow.holds Try.pinned (OpenSpec.ofChange octetBackSpec)

/-- ITS FALSE NEIGHBOUR: 'it returns false'. Refute it at one input. -/
def octetBackWrong : ChangeSpec := { name := "octetBack", fn := fun _ => fun
  | [d1, d2, d3, d4] => { results := [.lit (.bool false)], args := [d1, d2, d3, d4] }
  | _ => none }
def OctetBackWrongFalsely : Prop := octetBackRow.holds Try.pinned (OpenSpec.ofChange octetBackWrong)

/-- 'battenlaw01.OctetNil': WHATEVER THE INPUT: true; the input reads as it did. -/
def octetNilSpec : ChangeSpec := { name := "octetNil", fn := fun _ => fun
  | [d1, d2, d3] => { results := [.lit (.bool true)], args := [d1, d2, d3] }
  | _ => none }
def octetNilRow : OpenClaim := { program := "ytcjkodcamkcljaa", sum := "9c70eb8b4e94307dcabc22ade2e88aba409354775174c32dd874b27c3cd1b00f", func := "batten/battenlaw01.OctetNil", spec := "octetNil", unfollowed := true, recurses := true, apart := false }
def OctetNilSaid : Prop := octetNilRow.holds Try.pinned (OpenSpec.ofChange octetNilSpec)

/-- ITS FALSE NEIGHBOUR: 'it returns false'. Refute it at one input. -/
def octetNilWrong : ChangeSpec := { name := "octetNil", fn := fun _ => fun
  | [d1, d2, d3] => { results := [.lit (.bool false)], args := [d1, d2, d3] }
  | _ => none }
def OctetNilWrongFalsely : Prop := octetNilRow.holds Try.pinned (OpenSpec.ofChange octetNilWrong)

/-- 'battenlaw01.OctetStops': WHATEVER THE INPUT: true; the input reads as it did. -/
def octetStopsSpec : ChangeSpec := { name := "octetStops", fn := fun _ => fun
  | [d1, d2] => { results := [.lit (.bool true)], args := [d1, d2] }
  | _ => none }
def octetStopsRow : OpenClaim := { program := "ytcjkodcamkcljaa", sum := "9c70eb8b4e94307dcabc22ade2e88aba409354775174c32dd874b27c3cd1b00f", func := "batten/battenlaw01.OctetStops", spec := "octetStops", unfollowed := true, recurses := true, apart := false }
def OctetStopsSaid : Prop := octetStopsRow.holds Try.pinned (OpenSpec.ofChange octetStopsSpec)

/-- ITS FALSE NEIGHBOUR: 'it returns false'. Refute it at one input. -/
def octetStopsWrong : ChangeSpec := { name := "octetStops", fn := fun _ => fun
  | [d1, d2] => { results := [.lit (.bool false)], args := [d1, d2] }
  | _ => none }
def OctetStopsWrongFalsely : Prop := octetStopsRow.holds Try.pinned (OpenSpec.ofChange octetStopsWrong)

/- THE SECOND FORM. 'bulk': how many values and letters a reading holds, each counted each time it is reached (what is shared counts as often as it is met; a slice's spare places count too). A statement '..UptoSaid' is the law's where the arguments, and the package variables that the reading takes, are together of bulk at most 1048576: NARROWER than '..Said'. Prove '..Said' where nothing that the law and all that it calls make is longer than what came in: it says more and counts as full. Else prove '..UptoSaid'. A law counts once. -/
mutual
def uptoBulk {H : Type} : DataW H → Nat
  | .lit (.string bytes) => bytes.length + 1
  | .lit _ => 1
  | .nil => 1
  | .ptr d => uptoBulk d + 1
  | .slice elems spare => uptoBulkAll elems + uptoBulkAll spare + 1
  | .agg parts => uptoBulkAll parts + 1
  | .iface _ d => uptoBulk d + 1
  | .map entries => uptoBulkEntries entries + 1
  | .held _ => 1
def uptoBulkAll {H : Type} : List (DataW H) → Nat
  | [] => 0
  | d :: r => uptoBulk d + uptoBulkAll r
def uptoBulkEntries {H : Type} : List (Lit × DataW H) → Nat
  | [] => 0
  | x :: r => uptoBulkEntry x + uptoBulkEntries r
def uptoBulkEntry {H : Type} : Lit × DataW H → Nat
  | (.string bytes, d) => bytes.length + uptoBulk d + 1
  | (_, d) => uptoBulk d + 1
 end
def uptoSmall : (H : Type) → List (DataW H) → Bool := fun _ ds => decide (uptoBulkAll ds ≤ 1048576)
def OpenSpec.upto (s : _root_.Go.ChangeSpec) : _root_.Go.OpenSpec := { _root_.Go.OpenSpec.ofChange s with cond := some uptoSmall }

/-- 'battenlaw01.OctetPuts', WHERE WHAT IT READS IS OF BULK AT MOST 1048576: true; the input reads as it did. -/
def octetPutsUptoRow : OpenClaim := { program := "ytcjkodcamkcljaa", sum := "9c70eb8b4e94307dcabc22ade2e88aba409354775174c32dd874b27c3cd1b00f", func := "batten/battenlaw01.OctetPuts", spec := "octetPuts", unfollowed := true, recurses := true, apart := false, narrowed := true }
def OctetPutsUptoSaid : Prop := octetPutsUptoRow.holds Try.pinned (OpenSpec.upto octetPutsSpec)

/-- 'battenlaw01.OctetPrefix', WHERE WHAT IT READS IS OF BULK AT MOST 1048576: true; the input reads as it did. -/
def octetPrefixUptoRow : OpenClaim := { program := "ytcjkodcamkcljaa", sum := "9c70eb8b4e94307dcabc22ade2e88aba409354775174c32dd874b27c3cd1b00f", func := "batten/battenlaw01.OctetPrefix", spec := "octetPrefix", unfollowed := true, recurses := true, apart := false, narrowed := true }
def OctetPrefixUptoSaid : Prop := octetPrefixUptoRow.holds Try.pinned (OpenSpec.upto octetPrefixSpec)

/-- 'battenlaw01.OctetBack', WHERE WHAT IT READS IS OF BULK AT MOST 1048576: true; the input reads as it did. -/
def octetBackUptoRow : OpenClaim := { program := "ytcjkodcamkcljaa", sum := "9c70eb8b4e94307dcabc22ade2e88aba409354775174c32dd874b27c3cd1b00f", func := "batten/battenlaw01.OctetBack", spec := "octetBack", unfollowed := true, recurses := true, apart := false, narrowed := true }
def OctetBackUptoSaid : Prop := octetBackUptoRow.holds Try.pinned (OpenSpec.upto octetBackSpec)

/-- 'battenlaw01.OctetNil', WHERE WHAT IT READS IS OF BULK AT MOST 1048576: true; the input reads as it did. -/
def octetNilUptoRow : OpenClaim := { program := "ytcjkodcamkcljaa", sum := "9c70eb8b4e94307dcabc22ade2e88aba409354775174c32dd874b27c3cd1b00f", func := "batten/battenlaw01.OctetNil", spec := "octetNil", unfollowed := true, recurses := true, apart := false, narrowed := true }
def OctetNilUptoSaid : Prop := octetNilUptoRow.holds Try.pinned (OpenSpec.upto octetNilSpec)

/-- 'battenlaw01.OctetStops', WHERE WHAT IT READS IS OF BULK AT MOST 1048576: true; the input reads as it did. -/
def octetStopsUptoRow : OpenClaim := { program := "ytcjkodcamkcljaa", sum := "9c70eb8b4e94307dcabc22ade2e88aba409354775174c32dd874b27c3cd1b00f", func := "batten/battenlaw01.OctetStops", spec := "octetStops", unfollowed := true, recurses := true, apart := false, narrowed := true }
def OctetStopsUptoSaid : Prop := octetStopsUptoRow.holds Try.pinned (OpenSpec.upto octetStopsSpec)

end Rows
end Go.Proofs.Ytcjkodcamkcljaa
