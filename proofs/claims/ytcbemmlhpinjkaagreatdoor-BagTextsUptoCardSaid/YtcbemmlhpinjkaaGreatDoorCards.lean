/-
  DERIVED. GIVEN WITH THE SEED: THE CARDS: each row of YtcbemmlhpinjkaaGreatDoorRows.lean that lists a variable, with what it lists TIED to the program's text (the seventh form; the later family's looks); each row that meets fmt, with fmt's text TOLD by the authors' own Lean function (tested against real Go, not proved from fmt's source: count such statements apart). THE CARD IS WHAT COUNTS. Prove the row's statement (the work); the ties are given (YtcbemmlhpinjkaaGreatDoorTie.lean); close each card by the builder's one call (the guide's Derived/Test/ToyasCard.lean, 'card_holds'). Laid BY PROGRAM, IN A SANDBOX (cutbox-door.mjs). By AI agents, Wed Nov 11 2026. No macro, syntax, notation, axiom, sorry.
-/
import Derived.Test.YtcbemmlhpinjkaaGreatDoorRows
import GoSem.ClaimSeven
namespace Go.Proofs.YtcbemmlhpinjkaaGreatDoor
namespace Rows

/-- THE TIED CARD OF 'afterwordlaw04.BagPairs'. -/
def bagPairsCard : Claim7 := { stood := { row := bagPairsRow, standIns := [], harness := (true, "0c73122b1a378f7eb15cb08ab6d136a69377e186355ee47f323be2a27047500c"), looks := true }, kinds := [], alts := [], laidByText := true, laidKinds := [.data, .data, .data], laidTests := true, laidLooks := .later }
def BagPairsCardSaid : Prop := Claim7.holds Tryz.pinned (.plain (OpenSpec.ofChange bagPairsSpec)) bagPairsCard

/-- THE TIED CARD OF 'afterwordlaw04.BagTexts'. -/
def bagTextsCard : Claim7 := { stood := { row := bagTextsRow, standIns := [], harness := (true, "0c73122b1a378f7eb15cb08ab6d136a69377e186355ee47f323be2a27047500c"), looks := true }, kinds := [], alts := [], laidByText := true, laidKinds := [.data, .data, .data], laidTests := true, laidLooks := .later }
def BagTextsCardSaid : Prop := Claim7.holds Tryz.pinned (.plain (OpenSpec.ofChange bagTextsSpec)) bagTextsCard

/-- THE TIED CARD OF 'afterwordlaw04.BagNews'. -/
def bagNewsCard : Claim7 := { stood := { row := bagNewsRow, standIns := [], harness := (true, "0c73122b1a378f7eb15cb08ab6d136a69377e186355ee47f323be2a27047500c"), looks := true }, kinds := [], alts := [], laidByText := true, laidKinds := [.data, .data, .data], laidTests := true, laidLooks := .later }
def BagNewsCardSaid : Prop := Claim7.holds Tryz.pinned (.plain (OpenSpec.ofChange bagNewsSpec)) bagNewsCard

/-- THE TIED CARD OF 'afterwordlaw04.BagSums'. -/
def bagSumsCard : Claim7 := { stood := { row := bagSumsRow, standIns := [], harness := (true, "0c73122b1a378f7eb15cb08ab6d136a69377e186355ee47f323be2a27047500c"), looks := true }, kinds := [], alts := [], laidByText := true, laidKinds := [.data, .data, .data], laidTests := true, laidLooks := .later }
def BagSumsCardSaid : Prop := Claim7.holds Tryz.pinned (.plain (OpenSpec.ofChange bagSumsSpec)) bagSumsCard

/-- THE TIED CARD OF 'afterwordlaw04.BagEdits'. -/
def bagEditsCard : Claim7 := { stood := { row := bagEditsRow, standIns := [], harness := (true, "0c73122b1a378f7eb15cb08ab6d136a69377e186355ee47f323be2a27047500c"), looks := true }, kinds := [], alts := [], laidByText := true, laidKinds := [.data, .data, .data], laidTests := true, laidLooks := .later }
def BagEditsCardSaid : Prop := Claim7.holds Tryz.pinned (.plain (OpenSpec.ofChange bagEditsSpec)) bagEditsCard

/-- THE TIED CARD OF 'afterwordlaw04.BagCuts'. -/
def bagCutsCard : Claim7 := { stood := { row := bagCutsRow, standIns := [], harness := (true, "0c73122b1a378f7eb15cb08ab6d136a69377e186355ee47f323be2a27047500c"), looks := true }, kinds := [], alts := [], laidByText := true, laidKinds := [.data, .data, .data], laidTests := true, laidLooks := .later }
def BagCutsCardSaid : Prop := Claim7.holds Tryz.pinned (.plain (OpenSpec.ofChange bagCutsSpec)) bagCutsCard

/-- THE TIED CARD OF 'afterwordlaw04.BagReads'. -/
def bagReadsCard : Claim7 := { stood := { row := bagReadsRow, standIns := [], harness := (true, "0c73122b1a378f7eb15cb08ab6d136a69377e186355ee47f323be2a27047500c"), looks := true }, kinds := [], alts := [], laidByText := true, laidKinds := [.data, .data, .data], laidTests := true, laidLooks := .later }
def BagReadsCardSaid : Prop := Claim7.holds Tryz.pinned (.plain (OpenSpec.ofChange bagReadsSpec)) bagReadsCard

/-- THE TIED CARD OF 'afterwordlaw04.BagParted'. -/
def bagPartedCard : Claim7 := { stood := { row := bagPartedRow, standIns := [], harness := (true, "0c73122b1a378f7eb15cb08ab6d136a69377e186355ee47f323be2a27047500c"), looks := true }, kinds := [], alts := [], laidByText := true, laidKinds := [.data, .data, .data], laidTests := true, laidLooks := .later }
def BagPartedCardSaid : Prop := Claim7.holds Tryz.pinned (.plain (OpenSpec.ofChange bagPartedSpec)) bagPartedCard

/-- THE SECOND FORM's CARD OF 'afterwordlaw04.BagPairs'. -/
def bagPairsUptoCard : Claim7 := { stood := { row := bagPairsUptoRow, standIns := [], harness := (true, "0c73122b1a378f7eb15cb08ab6d136a69377e186355ee47f323be2a27047500c"), looks := true }, kinds := [], alts := [], laidByText := true, laidKinds := [.data, .data, .data], laidTests := true, laidLooks := .later }
def BagPairsUptoCardSaid : Prop := Claim7.holds Tryz.pinned (.plain (OpenSpec.upto bagPairsSpec)) bagPairsUptoCard

/-- THE SECOND FORM's CARD OF 'afterwordlaw04.BagTexts'. -/
def bagTextsUptoCard : Claim7 := { stood := { row := bagTextsUptoRow, standIns := [], harness := (true, "0c73122b1a378f7eb15cb08ab6d136a69377e186355ee47f323be2a27047500c"), looks := true }, kinds := [], alts := [], laidByText := true, laidKinds := [.data, .data, .data], laidTests := true, laidLooks := .later }
def BagTextsUptoCardSaid : Prop := Claim7.holds Tryz.pinned (.plain (OpenSpec.upto bagTextsSpec)) bagTextsUptoCard

/-- THE SECOND FORM's CARD OF 'afterwordlaw04.BagNews'. -/
def bagNewsUptoCard : Claim7 := { stood := { row := bagNewsUptoRow, standIns := [], harness := (true, "0c73122b1a378f7eb15cb08ab6d136a69377e186355ee47f323be2a27047500c"), looks := true }, kinds := [], alts := [], laidByText := true, laidKinds := [.data, .data, .data], laidTests := true, laidLooks := .later }
def BagNewsUptoCardSaid : Prop := Claim7.holds Tryz.pinned (.plain (OpenSpec.upto bagNewsSpec)) bagNewsUptoCard

/-- THE SECOND FORM's CARD OF 'afterwordlaw04.BagSums'. -/
def bagSumsUptoCard : Claim7 := { stood := { row := bagSumsUptoRow, standIns := [], harness := (true, "0c73122b1a378f7eb15cb08ab6d136a69377e186355ee47f323be2a27047500c"), looks := true }, kinds := [], alts := [], laidByText := true, laidKinds := [.data, .data, .data], laidTests := true, laidLooks := .later }
def BagSumsUptoCardSaid : Prop := Claim7.holds Tryz.pinned (.plain (OpenSpec.upto bagSumsSpec)) bagSumsUptoCard

/-- THE SECOND FORM's CARD OF 'afterwordlaw04.BagEdits'. -/
def bagEditsUptoCard : Claim7 := { stood := { row := bagEditsUptoRow, standIns := [], harness := (true, "0c73122b1a378f7eb15cb08ab6d136a69377e186355ee47f323be2a27047500c"), looks := true }, kinds := [], alts := [], laidByText := true, laidKinds := [.data, .data, .data], laidTests := true, laidLooks := .later }
def BagEditsUptoCardSaid : Prop := Claim7.holds Tryz.pinned (.plain (OpenSpec.upto bagEditsSpec)) bagEditsUptoCard

/-- THE SECOND FORM's CARD OF 'afterwordlaw04.BagCuts'. -/
def bagCutsUptoCard : Claim7 := { stood := { row := bagCutsUptoRow, standIns := [], harness := (true, "0c73122b1a378f7eb15cb08ab6d136a69377e186355ee47f323be2a27047500c"), looks := true }, kinds := [], alts := [], laidByText := true, laidKinds := [.data, .data, .data], laidTests := true, laidLooks := .later }
def BagCutsUptoCardSaid : Prop := Claim7.holds Tryz.pinned (.plain (OpenSpec.upto bagCutsSpec)) bagCutsUptoCard

/-- THE SECOND FORM's CARD OF 'afterwordlaw04.BagReads'. -/
def bagReadsUptoCard : Claim7 := { stood := { row := bagReadsUptoRow, standIns := [], harness := (true, "0c73122b1a378f7eb15cb08ab6d136a69377e186355ee47f323be2a27047500c"), looks := true }, kinds := [], alts := [], laidByText := true, laidKinds := [.data, .data, .data], laidTests := true, laidLooks := .later }
def BagReadsUptoCardSaid : Prop := Claim7.holds Tryz.pinned (.plain (OpenSpec.upto bagReadsSpec)) bagReadsUptoCard

/-- THE SECOND FORM's CARD OF 'afterwordlaw04.BagParted'. -/
def bagPartedUptoCard : Claim7 := { stood := { row := bagPartedUptoRow, standIns := [], harness := (true, "0c73122b1a378f7eb15cb08ab6d136a69377e186355ee47f323be2a27047500c"), looks := true }, kinds := [], alts := [], laidByText := true, laidKinds := [.data, .data, .data], laidTests := true, laidLooks := .later }
def BagPartedUptoCardSaid : Prop := Claim7.holds Tryz.pinned (.plain (OpenSpec.upto bagPartedSpec)) bagPartedUptoCard
end Rows
end Go.Proofs.YtcbemmlhpinjkaaGreatDoor
