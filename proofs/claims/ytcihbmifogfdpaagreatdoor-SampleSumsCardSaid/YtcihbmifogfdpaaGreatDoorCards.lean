/-
  DERIVED. GIVEN WITH THE SEED: THE CARDS: each row of YtcihbmifogfdpaaGreatDoorRows.lean that lists a variable, with what it lists TIED to the program's text (the seventh form; the later family's looks); each row that meets fmt, with fmt's text TOLD by the authors' own Lean function (tested against real Go, not proved from fmt's source: count such statements apart). THE CARD IS WHAT COUNTS. Prove the row's statement (the work); the ties are given (YtcihbmifogfdpaaGreatDoorTie.lean); close each card by the builder's one call (the guide's Derived/Test/ToyasCard.lean, 'card_holds'). Laid BY PROGRAM, IN A SANDBOX (cutbox-door.mjs). By AI agents, Wed Nov 11 2026. No macro, syntax, notation, axiom, sorry.
-/
import Derived.Test.YtcihbmifogfdpaaGreatDoorRows
import GoSem.ClaimSeven
namespace Go.Proofs.YtcihbmifogfdpaaGreatDoor
namespace Rows

/-- THE TIED CARD OF 'freeholdlaw14.SampleTexts'. -/
def sampleTextsCard : Claim7 := { stood := { row := sampleTextsRow, standIns := [], harness := (true, "3d96cfb6102b2faac6e5fe2ee42261854e4cc9fc0ca1f315ad7aa8a03fa5a3e1"), looks := true }, kinds := [], alts := [], laidByText := true, laidKinds := [.data, .data, .data, .data, .data, .data, .sentinel, .sentinel, .pinned], laidTests := true, laidLooks := .later }
def SampleTextsCardSaid : Prop := Claim7.holds Tryz.pinned (.plain (OpenSpec.ofChange sampleTextsSpec)) sampleTextsCard

/-- THE TIED CARD OF 'freeholdlaw14.SampleWeights'. -/
def sampleWeightsCard : Claim7 := { stood := { row := sampleWeightsRow, standIns := [], harness := (true, "3d96cfb6102b2faac6e5fe2ee42261854e4cc9fc0ca1f315ad7aa8a03fa5a3e1"), looks := true }, kinds := [], alts := [], laidByText := true, laidKinds := [.data, .data, .data, .data, .data, .data, .sentinel, .sentinel, .pinned], laidTests := true, laidLooks := .later }
def SampleWeightsCardSaid : Prop := Claim7.holds Tryz.pinned (.plain (OpenSpec.ofChange sampleWeightsSpec)) sampleWeightsCard

/-- THE TIED CARD OF 'freeholdlaw14.SampleBack'. -/
def sampleBackCard : Claim7 := { stood := { row := sampleBackRow, standIns := [], harness := (true, "3d96cfb6102b2faac6e5fe2ee42261854e4cc9fc0ca1f315ad7aa8a03fa5a3e1"), looks := true }, kinds := [], alts := [], laidByText := true, laidKinds := [.data, .data, .data, .data, .data, .data, .sentinel, .sentinel, .pinned], laidTests := true, laidLooks := .later }
def SampleBackCardSaid : Prop := Claim7.holds Tryz.pinned (.plain (OpenSpec.ofChange sampleBackSpec)) sampleBackCard

/-- THE TIED CARD OF 'freeholdlaw14.SampleOnce'. -/
def sampleOnceCard : Claim7 := { stood := { row := sampleOnceRow, standIns := [], harness := (true, "3d96cfb6102b2faac6e5fe2ee42261854e4cc9fc0ca1f315ad7aa8a03fa5a3e1"), looks := true }, kinds := [], alts := [], laidByText := true, laidKinds := [.data, .data, .data, .data, .data, .data, .sentinel, .sentinel, .pinned], laidTests := true, laidLooks := .later }
def SampleOnceCardSaid : Prop := Claim7.holds Tryz.pinned (.plain (OpenSpec.ofChange sampleOnceSpec)) sampleOnceCard

/-- THE TIED CARD OF 'freeholdlaw14.SampleFull'. -/
def sampleFullCard : Claim7 := { stood := { row := sampleFullRow, standIns := [], harness := (true, "3d96cfb6102b2faac6e5fe2ee42261854e4cc9fc0ca1f315ad7aa8a03fa5a3e1"), looks := true }, kinds := [], alts := [], laidByText := true, laidKinds := [.data, .data, .data, .data, .data, .data, .sentinel, .sentinel, .pinned], laidTests := true, laidLooks := .later }
def SampleFullCardSaid : Prop := Claim7.holds Tryz.pinned (.plain (OpenSpec.ofChange sampleFullSpec)) sampleFullCard

/-- THE TIED CARD OF 'freeholdlaw14.SampleExact'. -/
def sampleExactCard : Claim7 := { stood := { row := sampleExactRow, standIns := [], harness := (true, "3d96cfb6102b2faac6e5fe2ee42261854e4cc9fc0ca1f315ad7aa8a03fa5a3e1"), looks := true }, kinds := [], alts := [], laidByText := true, laidKinds := [.data, .data, .data, .data, .data, .data, .sentinel, .sentinel, .pinned], laidTests := true, laidLooks := .later }
def SampleExactCardSaid : Prop := Claim7.holds Tryz.pinned (.plain (OpenSpec.ofChange sampleExactSpec)) sampleExactCard

/-- THE TIED CARD OF 'freeholdlaw14.SampleDiffs'. -/
def sampleDiffsCard : Claim7 := { stood := { row := sampleDiffsRow, standIns := [], harness := (true, "3d96cfb6102b2faac6e5fe2ee42261854e4cc9fc0ca1f315ad7aa8a03fa5a3e1"), looks := true }, kinds := [], alts := [], laidByText := true, laidKinds := [.data, .data, .data, .data, .data, .data, .sentinel, .sentinel, .pinned], laidTests := true, laidLooks := .later }
def SampleDiffsCardSaid : Prop := Claim7.holds Tryz.pinned (.plain (OpenSpec.ofChange sampleDiffsSpec)) sampleDiffsCard

/-- THE TIED CARD OF 'freeholdlaw14.SampleSums'. -/
def sampleSumsCard : Claim7 := { stood := { row := sampleSumsRow, standIns := [], harness := (true, "3d96cfb6102b2faac6e5fe2ee42261854e4cc9fc0ca1f315ad7aa8a03fa5a3e1"), looks := true }, kinds := [], alts := [], laidByText := true, laidKinds := [.data, .data, .data, .data, .data, .data, .sentinel, .sentinel, .pinned], laidTests := true, laidLooks := .later }
def SampleSumsCardSaid : Prop := Claim7.holds Tryz.pinned (.plain (OpenSpec.ofChange sampleSumsSpec)) sampleSumsCard

/-- THE TIED CARD OF 'freeholdlaw14.SampleNone'. -/
def sampleNoneCard : Claim7 := { stood := { row := sampleNoneRow, standIns := [], harness := (true, "3d96cfb6102b2faac6e5fe2ee42261854e4cc9fc0ca1f315ad7aa8a03fa5a3e1"), looks := true }, kinds := [], alts := [], laidByText := true, laidKinds := [.data, .data, .data, .data, .data, .data, .sentinel, .sentinel, .pinned], laidTests := true, laidLooks := .later }
def SampleNoneCardSaid : Prop := Claim7.holds Tryz.pinned (.plain (OpenSpec.ofChange sampleNoneSpec)) sampleNoneCard

/-- THE TIED CARD OF 'freeholdlaw14.SampleRefuses'. -/
def sampleRefusesCard : Claim7 := { stood := { row := sampleRefusesRow, standIns := [], harness := (true, "3d96cfb6102b2faac6e5fe2ee42261854e4cc9fc0ca1f315ad7aa8a03fa5a3e1"), looks := true }, kinds := [], alts := [], laidByText := true, laidKinds := [.data, .data, .data, .data, .data, .data, .sentinel, .sentinel, .pinned], laidTests := true, laidLooks := .later }
def SampleRefusesCardSaid : Prop := Claim7.holds Tryz.pinned (.plain (OpenSpec.ofChange sampleRefusesSpec)) sampleRefusesCard

/-- THE TIED CARD OF 'freeholdlaw14.SampleClones'. -/
def sampleClonesCard : Claim7 := { stood := { row := sampleClonesRow, standIns := [], harness := (true, "3d96cfb6102b2faac6e5fe2ee42261854e4cc9fc0ca1f315ad7aa8a03fa5a3e1"), looks := true }, kinds := [], alts := [], laidByText := true, laidKinds := [.data, .data, .data, .data, .data, .data, .sentinel, .sentinel, .pinned], laidTests := true, laidLooks := .later }
def SampleClonesCardSaid : Prop := Claim7.holds Tryz.pinned (.plain (OpenSpec.ofChange sampleClonesSpec)) sampleClonesCard

/-- THE TIED CARD OF 'freeholdlaw14.SampleKnown'. -/
def sampleKnownCard : Claim7 := { stood := { row := sampleKnownRow, standIns := [], harness := (true, "3d96cfb6102b2faac6e5fe2ee42261854e4cc9fc0ca1f315ad7aa8a03fa5a3e1"), looks := true }, kinds := [], alts := [], laidByText := true, laidKinds := [.data, .data, .data, .data, .data, .data, .data, .sentinel, .sentinel, .pinned], laidTests := true, laidLooks := .later }
def SampleKnownCardSaid : Prop := Claim7.holds Tryz.pinned (.plain (OpenSpec.ofChange sampleKnownSpec)) sampleKnownCard

/-- THE SECOND FORM's CARD OF 'freeholdlaw14.SampleTexts'. -/
def sampleTextsUptoCard : Claim7 := { stood := { row := sampleTextsUptoRow, standIns := [], harness := (true, "3d96cfb6102b2faac6e5fe2ee42261854e4cc9fc0ca1f315ad7aa8a03fa5a3e1"), looks := true }, kinds := [], alts := [], laidByText := true, laidKinds := [.data, .data, .data, .data, .data, .data, .sentinel, .sentinel, .pinned], laidTests := true, laidLooks := .later }
def SampleTextsUptoCardSaid : Prop := Claim7.holds Tryz.pinned (.plain (OpenSpec.upto sampleTextsSpec)) sampleTextsUptoCard

/-- THE SECOND FORM's CARD OF 'freeholdlaw14.SampleWeights'. -/
def sampleWeightsUptoCard : Claim7 := { stood := { row := sampleWeightsUptoRow, standIns := [], harness := (true, "3d96cfb6102b2faac6e5fe2ee42261854e4cc9fc0ca1f315ad7aa8a03fa5a3e1"), looks := true }, kinds := [], alts := [], laidByText := true, laidKinds := [.data, .data, .data, .data, .data, .data, .sentinel, .sentinel, .pinned], laidTests := true, laidLooks := .later }
def SampleWeightsUptoCardSaid : Prop := Claim7.holds Tryz.pinned (.plain (OpenSpec.upto sampleWeightsSpec)) sampleWeightsUptoCard

/-- THE SECOND FORM's CARD OF 'freeholdlaw14.SampleBack'. -/
def sampleBackUptoCard : Claim7 := { stood := { row := sampleBackUptoRow, standIns := [], harness := (true, "3d96cfb6102b2faac6e5fe2ee42261854e4cc9fc0ca1f315ad7aa8a03fa5a3e1"), looks := true }, kinds := [], alts := [], laidByText := true, laidKinds := [.data, .data, .data, .data, .data, .data, .sentinel, .sentinel, .pinned], laidTests := true, laidLooks := .later }
def SampleBackUptoCardSaid : Prop := Claim7.holds Tryz.pinned (.plain (OpenSpec.upto sampleBackSpec)) sampleBackUptoCard

/-- THE SECOND FORM's CARD OF 'freeholdlaw14.SampleOnce'. -/
def sampleOnceUptoCard : Claim7 := { stood := { row := sampleOnceUptoRow, standIns := [], harness := (true, "3d96cfb6102b2faac6e5fe2ee42261854e4cc9fc0ca1f315ad7aa8a03fa5a3e1"), looks := true }, kinds := [], alts := [], laidByText := true, laidKinds := [.data, .data, .data, .data, .data, .data, .sentinel, .sentinel, .pinned], laidTests := true, laidLooks := .later }
def SampleOnceUptoCardSaid : Prop := Claim7.holds Tryz.pinned (.plain (OpenSpec.upto sampleOnceSpec)) sampleOnceUptoCard

/-- THE SECOND FORM's CARD OF 'freeholdlaw14.SampleFull'. -/
def sampleFullUptoCard : Claim7 := { stood := { row := sampleFullUptoRow, standIns := [], harness := (true, "3d96cfb6102b2faac6e5fe2ee42261854e4cc9fc0ca1f315ad7aa8a03fa5a3e1"), looks := true }, kinds := [], alts := [], laidByText := true, laidKinds := [.data, .data, .data, .data, .data, .data, .sentinel, .sentinel, .pinned], laidTests := true, laidLooks := .later }
def SampleFullUptoCardSaid : Prop := Claim7.holds Tryz.pinned (.plain (OpenSpec.upto sampleFullSpec)) sampleFullUptoCard

/-- THE SECOND FORM's CARD OF 'freeholdlaw14.SampleExact'. -/
def sampleExactUptoCard : Claim7 := { stood := { row := sampleExactUptoRow, standIns := [], harness := (true, "3d96cfb6102b2faac6e5fe2ee42261854e4cc9fc0ca1f315ad7aa8a03fa5a3e1"), looks := true }, kinds := [], alts := [], laidByText := true, laidKinds := [.data, .data, .data, .data, .data, .data, .sentinel, .sentinel, .pinned], laidTests := true, laidLooks := .later }
def SampleExactUptoCardSaid : Prop := Claim7.holds Tryz.pinned (.plain (OpenSpec.upto sampleExactSpec)) sampleExactUptoCard

/-- THE SECOND FORM's CARD OF 'freeholdlaw14.SampleDiffs'. -/
def sampleDiffsUptoCard : Claim7 := { stood := { row := sampleDiffsUptoRow, standIns := [], harness := (true, "3d96cfb6102b2faac6e5fe2ee42261854e4cc9fc0ca1f315ad7aa8a03fa5a3e1"), looks := true }, kinds := [], alts := [], laidByText := true, laidKinds := [.data, .data, .data, .data, .data, .data, .sentinel, .sentinel, .pinned], laidTests := true, laidLooks := .later }
def SampleDiffsUptoCardSaid : Prop := Claim7.holds Tryz.pinned (.plain (OpenSpec.upto sampleDiffsSpec)) sampleDiffsUptoCard

/-- THE SECOND FORM's CARD OF 'freeholdlaw14.SampleSums'. -/
def sampleSumsUptoCard : Claim7 := { stood := { row := sampleSumsUptoRow, standIns := [], harness := (true, "3d96cfb6102b2faac6e5fe2ee42261854e4cc9fc0ca1f315ad7aa8a03fa5a3e1"), looks := true }, kinds := [], alts := [], laidByText := true, laidKinds := [.data, .data, .data, .data, .data, .data, .sentinel, .sentinel, .pinned], laidTests := true, laidLooks := .later }
def SampleSumsUptoCardSaid : Prop := Claim7.holds Tryz.pinned (.plain (OpenSpec.upto sampleSumsSpec)) sampleSumsUptoCard

/-- THE SECOND FORM's CARD OF 'freeholdlaw14.SampleNone'. -/
def sampleNoneUptoCard : Claim7 := { stood := { row := sampleNoneUptoRow, standIns := [], harness := (true, "3d96cfb6102b2faac6e5fe2ee42261854e4cc9fc0ca1f315ad7aa8a03fa5a3e1"), looks := true }, kinds := [], alts := [], laidByText := true, laidKinds := [.data, .data, .data, .data, .data, .data, .sentinel, .sentinel, .pinned], laidTests := true, laidLooks := .later }
def SampleNoneUptoCardSaid : Prop := Claim7.holds Tryz.pinned (.plain (OpenSpec.upto sampleNoneSpec)) sampleNoneUptoCard

/-- THE SECOND FORM's CARD OF 'freeholdlaw14.SampleRefuses'. -/
def sampleRefusesUptoCard : Claim7 := { stood := { row := sampleRefusesUptoRow, standIns := [], harness := (true, "3d96cfb6102b2faac6e5fe2ee42261854e4cc9fc0ca1f315ad7aa8a03fa5a3e1"), looks := true }, kinds := [], alts := [], laidByText := true, laidKinds := [.data, .data, .data, .data, .data, .data, .sentinel, .sentinel, .pinned], laidTests := true, laidLooks := .later }
def SampleRefusesUptoCardSaid : Prop := Claim7.holds Tryz.pinned (.plain (OpenSpec.upto sampleRefusesSpec)) sampleRefusesUptoCard

/-- THE SECOND FORM's CARD OF 'freeholdlaw14.SampleClones'. -/
def sampleClonesUptoCard : Claim7 := { stood := { row := sampleClonesUptoRow, standIns := [], harness := (true, "3d96cfb6102b2faac6e5fe2ee42261854e4cc9fc0ca1f315ad7aa8a03fa5a3e1"), looks := true }, kinds := [], alts := [], laidByText := true, laidKinds := [.data, .data, .data, .data, .data, .data, .sentinel, .sentinel, .pinned], laidTests := true, laidLooks := .later }
def SampleClonesUptoCardSaid : Prop := Claim7.holds Tryz.pinned (.plain (OpenSpec.upto sampleClonesSpec)) sampleClonesUptoCard

/-- THE SECOND FORM's CARD OF 'freeholdlaw14.SampleKnown'. -/
def sampleKnownUptoCard : Claim7 := { stood := { row := sampleKnownUptoRow, standIns := [], harness := (true, "3d96cfb6102b2faac6e5fe2ee42261854e4cc9fc0ca1f315ad7aa8a03fa5a3e1"), looks := true }, kinds := [], alts := [], laidByText := true, laidKinds := [.data, .data, .data, .data, .data, .data, .data, .sentinel, .sentinel, .pinned], laidTests := true, laidLooks := .later }
def SampleKnownUptoCardSaid : Prop := Claim7.holds Tryz.pinned (.plain (OpenSpec.upto sampleKnownSpec)) sampleKnownUptoCard
end Rows
end Go.Proofs.YtcihbmifogfdpaaGreatDoor
