/-
  DERIVED. GIVEN WITH THE SEED: THE CARDS: each row of YtcodjodhacjfeaaGreatDoorRows.lean that lists a variable, with what it lists TIED to the program's text (the seventh form; the later family's looks); each row that meets fmt, with fmt's text TOLD by the authors' own Lean function (tested against real Go, not proved from fmt's source: count such statements apart). THE CARD IS WHAT COUNTS. Prove the row's statement (the work); the ties are given (YtcodjodhacjfeaaGreatDoorTie.lean); close each card by the builder's one call (the guide's Derived/Test/ToyasCard.lean, 'card_holds'). Laid BY PROGRAM, IN A SANDBOX (cutbox-door.mjs). By AI agents, Wed Nov 11 2026. No macro, syntax, notation, axiom, sorry.
-/
import Derived.Test.YtcodjodhacjfeaaGreatDoorRows
import GoSem.ClaimSeven
namespace Go.Proofs.YtcodjodhacjfeaaGreatDoor
namespace Rows

/-- THE TIED CARD OF 'freeholdlaw14.SampleFull'. -/
def sampleFullCard : Claim7 := { stood := { row := sampleFullRow, standIns := [], harness := (true, "9b17e598764a5d1b4538e1ba3bc4b281b6165fa394191560104c103837acf0c4"), looks := true }, kinds := [], alts := [], laidByText := true, laidKinds := [.data, .data, .data, .data, .data, .data, .sentinel, .sentinel, .pinned], laidTests := true, laidLooks := .later }
def SampleFullCardSaid : Prop := Claim7.holds Tryz.pinned (.plain (OpenSpec.ofChange sampleFullSpec)) sampleFullCard

/-- THE TIED CARD OF 'freeholdlaw14.SampleNone'. -/
def sampleNoneCard : Claim7 := { stood := { row := sampleNoneRow, standIns := [], harness := (true, "9b17e598764a5d1b4538e1ba3bc4b281b6165fa394191560104c103837acf0c4"), looks := true }, kinds := [], alts := [], laidByText := true, laidKinds := [.data, .data, .data, .data, .data, .data, .sentinel, .sentinel, .pinned], laidTests := true, laidLooks := .later }
def SampleNoneCardSaid : Prop := Claim7.holds Tryz.pinned (.plain (OpenSpec.ofChange sampleNoneSpec)) sampleNoneCard

/-- THE SECOND FORM's CARD OF 'freeholdlaw14.SampleFull'. -/
def sampleFullUptoCard : Claim7 := { stood := { row := sampleFullUptoRow, standIns := [], harness := (true, "9b17e598764a5d1b4538e1ba3bc4b281b6165fa394191560104c103837acf0c4"), looks := true }, kinds := [], alts := [], laidByText := true, laidKinds := [.data, .data, .data, .data, .data, .data, .sentinel, .sentinel, .pinned], laidTests := true, laidLooks := .later }
def SampleFullUptoCardSaid : Prop := Claim7.holds Tryz.pinned (.plain (OpenSpec.upto sampleFullSpec)) sampleFullUptoCard

/-- THE SECOND FORM's CARD OF 'freeholdlaw14.SampleNone'. -/
def sampleNoneUptoCard : Claim7 := { stood := { row := sampleNoneUptoRow, standIns := [], harness := (true, "9b17e598764a5d1b4538e1ba3bc4b281b6165fa394191560104c103837acf0c4"), looks := true }, kinds := [], alts := [], laidByText := true, laidKinds := [.data, .data, .data, .data, .data, .data, .sentinel, .sentinel, .pinned], laidTests := true, laidLooks := .later }
def SampleNoneUptoCardSaid : Prop := Claim7.holds Tryz.pinned (.plain (OpenSpec.upto sampleNoneSpec)) sampleNoneUptoCard
end Rows
end Go.Proofs.YtcodjodhacjfeaaGreatDoor
