/-
  DERIVED. GIVEN WITH THE SEED: THE CARDS: each row of YtmibjillclfogaaDoorRows.lean that lists a variable, with what it lists TIED to the program's text (the seventh form; the later family's looks); each row that meets fmt, with fmt's text TOLD by the authors' own Lean function (tested against real Go, not proved from fmt's source: count such statements apart). THE CARD IS WHAT COUNTS. Prove the row's statement (the work); the ties are given (YtmibjillclfogaaDoorTie.lean); close each card by the builder's one call (the guide's Derived/Test/ToyasCard.lean, 'card_holds'). Laid BY PROGRAM, IN A SANDBOX (cutbox-door.mjs). By AI agents, Wed Nov 11 2026. No macro, syntax, notation, axiom, sorry.
-/
import Derived.Test.YtmibjillclfogaaDoorRows
import GoSem.ClaimSeven
namespace Go.Proofs.YtmibjillclfogaaDoor
namespace Rows

/-- THE TIED CARD OF 'battenlaw16.CachePlays'. -/
def cachePlaysCard : Claim7 := { stood := { row := cachePlaysRow, standIns := [], harness := (true, "746b710ab9ae7a2313099a0f3bbf2a5ebd240614da3858a6398486141540ebfc"), looks := false }, kinds := [], alts := [], laidByText := true, laidKinds := [.data, .data, .data], laidTests := true, laidLooks := .later }
def CachePlaysCardSaid : Prop := Claim7.holds Tryd.pinned (.plain (OpenSpec.ofChange cachePlaysSpec)) cachePlaysCard

/-- THE TIED CARD OF 'battenlaw16.CacheKeeps'. -/
def cacheKeepsCard : Claim7 := { stood := { row := cacheKeepsRow, standIns := [], harness := (true, "746b710ab9ae7a2313099a0f3bbf2a5ebd240614da3858a6398486141540ebfc"), looks := false }, kinds := [], alts := [], laidByText := true, laidKinds := [.data, .data, .data], laidTests := true, laidLooks := .later }
def CacheKeepsCardSaid : Prop := Claim7.holds Tryd.pinned (.plain (OpenSpec.ofChange cacheKeepsSpec)) cacheKeepsCard

/-- THE TIED CARD OF 'battenlaw16.CacheNil'. -/
def cacheNilCard : Claim7 := { stood := { row := cacheNilRow, standIns := [], harness := (true, "746b710ab9ae7a2313099a0f3bbf2a5ebd240614da3858a6398486141540ebfc"), looks := false }, kinds := [], alts := [], laidByText := true, laidKinds := [.data, .data, .data], laidTests := true, laidLooks := .later }
def CacheNilCardSaid : Prop := Claim7.holds Tryd.pinned (.plain (OpenSpec.ofChange cacheNilSpec)) cacheNilCard

/-- THE TIED CARD OF 'battenlaw16.CacheEldest'. -/
def cacheEldestCard : Claim7 := { stood := { row := cacheEldestRow, standIns := [], harness := (true, "746b710ab9ae7a2313099a0f3bbf2a5ebd240614da3858a6398486141540ebfc"), looks := false }, kinds := [], alts := [], laidByText := true, laidKinds := [.data, .data, .data], laidTests := true, laidLooks := .later }
def CacheEldestCardSaid : Prop := Claim7.holds Tryd.pinned (.plain (OpenSpec.ofChange cacheEldestSpec)) cacheEldestCard

/-- THE SECOND FORM's CARD OF 'battenlaw16.CachePlays'. -/
def cachePlaysUptoCard : Claim7 := { stood := { row := cachePlaysUptoRow, standIns := [], harness := (true, "746b710ab9ae7a2313099a0f3bbf2a5ebd240614da3858a6398486141540ebfc"), looks := false }, kinds := [], alts := [], laidByText := true, laidKinds := [.data, .data, .data], laidTests := true, laidLooks := .later }
def CachePlaysUptoCardSaid : Prop := Claim7.holds Tryd.pinned (.plain (OpenSpec.upto cachePlaysSpec)) cachePlaysUptoCard

/-- THE SECOND FORM's CARD OF 'battenlaw16.CacheKeeps'. -/
def cacheKeepsUptoCard : Claim7 := { stood := { row := cacheKeepsUptoRow, standIns := [], harness := (true, "746b710ab9ae7a2313099a0f3bbf2a5ebd240614da3858a6398486141540ebfc"), looks := false }, kinds := [], alts := [], laidByText := true, laidKinds := [.data, .data, .data], laidTests := true, laidLooks := .later }
def CacheKeepsUptoCardSaid : Prop := Claim7.holds Tryd.pinned (.plain (OpenSpec.upto cacheKeepsSpec)) cacheKeepsUptoCard

/-- THE SECOND FORM's CARD OF 'battenlaw16.CacheNil'. -/
def cacheNilUptoCard : Claim7 := { stood := { row := cacheNilUptoRow, standIns := [], harness := (true, "746b710ab9ae7a2313099a0f3bbf2a5ebd240614da3858a6398486141540ebfc"), looks := false }, kinds := [], alts := [], laidByText := true, laidKinds := [.data, .data, .data], laidTests := true, laidLooks := .later }
def CacheNilUptoCardSaid : Prop := Claim7.holds Tryd.pinned (.plain (OpenSpec.upto cacheNilSpec)) cacheNilUptoCard

/-- THE SECOND FORM's CARD OF 'battenlaw16.CacheEldest'. -/
def cacheEldestUptoCard : Claim7 := { stood := { row := cacheEldestUptoRow, standIns := [], harness := (true, "746b710ab9ae7a2313099a0f3bbf2a5ebd240614da3858a6398486141540ebfc"), looks := false }, kinds := [], alts := [], laidByText := true, laidKinds := [.data, .data, .data], laidTests := true, laidLooks := .later }
def CacheEldestUptoCardSaid : Prop := Claim7.holds Tryd.pinned (.plain (OpenSpec.upto cacheEldestSpec)) cacheEldestUptoCard
end Rows
end Go.Proofs.YtmibjillclfogaaDoor
