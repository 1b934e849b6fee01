/-
  DERIVED. GIVEN WITH THE SEED: THE CARDS: each row of YtonjmakaebecjaaGreatDoorRows.lean that lists a variable, with what it lists TIED to the program's text (the seventh form; the later family's looks); each row that meets fmt, with fmt's text TOLD by the authors' own Lean function (tested against real Go, not proved from fmt's source: count such statements apart). THE CARD IS WHAT COUNTS. Prove the row's statement (the work); the ties are given (YtonjmakaebecjaaGreatDoorTie.lean); close each card by the builder's one call (the guide's Derived/Test/ToyasCard.lean, 'card_holds'). Laid BY PROGRAM, IN A SANDBOX (cutbox-door.mjs). By AI agents, Wed Nov 11 2026. No macro, syntax, notation, axiom, sorry.
-/
import Derived.Test.YtonjmakaebecjaaGreatDoorRows
import GoSem.ClaimSeven
namespace Go.Proofs.YtonjmakaebecjaaGreatDoor
namespace Rows

/-- THE TIED CARD OF 'afterwordlaw13.PickTrees'. -/
def pickTreesCard : Claim7 := { stood := { row := pickTreesRow, standIns := [], harness := (true, "4ec6f1fdff14cd7787b0100f5fe246077b2a6a03a1956e4398415cecd4166c86"), looks := true }, kinds := [], alts := [], laidByText := true, laidKinds := [.data, .data], laidTests := true, laidLooks := .later }
def PickTreesCardSaid : Prop := Claim7.holds Tryz.pinned (.plain (OpenSpec.ofChange pickTreesSpec)) pickTreesCard

/-- THE TIED CARD OF 'afterwordlaw13.PickReduces'. -/
def pickReducesCard : Claim7 := { stood := { row := pickReducesRow, standIns := [], harness := (true, "4ec6f1fdff14cd7787b0100f5fe246077b2a6a03a1956e4398415cecd4166c86"), looks := true }, kinds := [], alts := [], laidByText := true, laidKinds := [.data, .data], laidTests := true, laidLooks := .later }
def PickReducesCardSaid : Prop := Claim7.holds Tryz.pinned (.plain (OpenSpec.ofChange pickReducesSpec)) pickReducesCard

/-- THE TIED CARD OF 'afterwordlaw13.PickParts'. -/
def pickPartsCard : Claim7 := { stood := { row := pickPartsRow, standIns := [], harness := (true, "4ec6f1fdff14cd7787b0100f5fe246077b2a6a03a1956e4398415cecd4166c86"), looks := true }, kinds := [], alts := [], laidByText := true, laidKinds := [.data, .data], laidTests := true, laidLooks := .later }
def PickPartsCardSaid : Prop := Claim7.holds Tryz.pinned (.plain (OpenSpec.ofChange pickPartsSpec)) pickPartsCard

/-- THE TIED CARD OF 'afterwordlaw13.PickJoins'. -/
def pickJoinsCard : Claim7 := { stood := { row := pickJoinsRow, standIns := [], harness := (true, "4ec6f1fdff14cd7787b0100f5fe246077b2a6a03a1956e4398415cecd4166c86"), looks := true }, kinds := [], alts := [], laidByText := true, laidKinds := [.data, .data], laidTests := true, laidLooks := .later }
def PickJoinsCardSaid : Prop := Claim7.holds Tryz.pinned (.plain (OpenSpec.ofChange pickJoinsSpec)) pickJoinsCard

/-- THE TIED CARD OF 'afterwordlaw13.PickReduced'. -/
def pickReducedCard : Claim7 := { stood := { row := pickReducedRow, standIns := [], harness := (true, "4ec6f1fdff14cd7787b0100f5fe246077b2a6a03a1956e4398415cecd4166c86"), looks := true }, kinds := [], alts := [], laidByText := true, laidKinds := [.data, .data], laidTests := true, laidLooks := .later }
def PickReducedCardSaid : Prop := Claim7.holds Tryz.pinned (.plain (OpenSpec.ofChange pickReducedSpec)) pickReducedCard

/-- THE TIED CARD OF 'afterwordlaw13.PickRules'. -/
def pickRulesCard : Claim7 := { stood := { row := pickRulesRow, standIns := [], harness := (true, "4ec6f1fdff14cd7787b0100f5fe246077b2a6a03a1956e4398415cecd4166c86"), looks := true }, kinds := [], alts := [], laidByText := true, laidKinds := [.data, .data], laidTests := true, laidLooks := .later }
def PickRulesCardSaid : Prop := Claim7.holds Tryz.pinned (.plain (OpenSpec.ofChange pickRulesSpec)) pickRulesCard

/-- THE TIED CARD OF 'afterwordlaw13.PickLossless'. -/
def pickLosslessCard : Claim7 := { stood := { row := pickLosslessRow, standIns := [], harness := (true, "4ec6f1fdff14cd7787b0100f5fe246077b2a6a03a1956e4398415cecd4166c86"), looks := true }, kinds := [], alts := [], laidByText := true, laidKinds := [.data, .data], laidTests := true, laidLooks := .later }
def PickLosslessCardSaid : Prop := Claim7.holds Tryz.pinned (.plain (OpenSpec.ofChange pickLosslessSpec)) pickLosslessCard

/-- THE TIED CARD OF 'afterwordlaw13.PickBest'. -/
def pickBestCard : Claim7 := { stood := { row := pickBestRow, standIns := [], harness := (true, "4ec6f1fdff14cd7787b0100f5fe246077b2a6a03a1956e4398415cecd4166c86"), looks := true }, kinds := [], alts := [], laidByText := true, laidKinds := [.data, .data], laidTests := true, laidLooks := .later }
def PickBestCardSaid : Prop := Claim7.holds Tryz.pinned (.plain (OpenSpec.ofChange pickBestSpec)) pickBestCard

/-- THE TIED CARD OF 'afterwordlaw13.PickRing'. -/
def pickRingCard : Claim7 := { stood := { row := pickRingRow, standIns := [], harness := (true, "4ec6f1fdff14cd7787b0100f5fe246077b2a6a03a1956e4398415cecd4166c86"), looks := true }, kinds := [], alts := [], laidByText := true, laidKinds := [.data, .data], laidTests := true, laidLooks := .later }
def PickRingCardSaid : Prop := Claim7.holds Tryz.pinned (.plain (OpenSpec.ofChange pickRingSpec)) pickRingCard

/-- THE TIED CARD OF 'afterwordlaw13.PickOrder'. -/
def pickOrderCard : Claim7 := { stood := { row := pickOrderRow, standIns := [], harness := (true, "4ec6f1fdff14cd7787b0100f5fe246077b2a6a03a1956e4398415cecd4166c86"), looks := true }, kinds := [], alts := [], laidByText := true, laidKinds := [.data, .data], laidTests := true, laidLooks := .later }
def PickOrderCardSaid : Prop := Claim7.holds Tryz.pinned (.plain (OpenSpec.ofChange pickOrderSpec)) pickOrderCard

/-- THE SECOND FORM's CARD OF 'afterwordlaw13.PickTrees'. -/
def pickTreesUptoCard : Claim7 := { stood := { row := pickTreesUptoRow, standIns := [], harness := (true, "4ec6f1fdff14cd7787b0100f5fe246077b2a6a03a1956e4398415cecd4166c86"), looks := true }, kinds := [], alts := [], laidByText := true, laidKinds := [.data, .data], laidTests := true, laidLooks := .later }
def PickTreesUptoCardSaid : Prop := Claim7.holds Tryz.pinned (.plain (OpenSpec.upto pickTreesSpec)) pickTreesUptoCard

/-- THE SECOND FORM's CARD OF 'afterwordlaw13.PickReduces'. -/
def pickReducesUptoCard : Claim7 := { stood := { row := pickReducesUptoRow, standIns := [], harness := (true, "4ec6f1fdff14cd7787b0100f5fe246077b2a6a03a1956e4398415cecd4166c86"), looks := true }, kinds := [], alts := [], laidByText := true, laidKinds := [.data, .data], laidTests := true, laidLooks := .later }
def PickReducesUptoCardSaid : Prop := Claim7.holds Tryz.pinned (.plain (OpenSpec.upto pickReducesSpec)) pickReducesUptoCard

/-- THE SECOND FORM's CARD OF 'afterwordlaw13.PickParts'. -/
def pickPartsUptoCard : Claim7 := { stood := { row := pickPartsUptoRow, standIns := [], harness := (true, "4ec6f1fdff14cd7787b0100f5fe246077b2a6a03a1956e4398415cecd4166c86"), looks := true }, kinds := [], alts := [], laidByText := true, laidKinds := [.data, .data], laidTests := true, laidLooks := .later }
def PickPartsUptoCardSaid : Prop := Claim7.holds Tryz.pinned (.plain (OpenSpec.upto pickPartsSpec)) pickPartsUptoCard

/-- THE SECOND FORM's CARD OF 'afterwordlaw13.PickJoins'. -/
def pickJoinsUptoCard : Claim7 := { stood := { row := pickJoinsUptoRow, standIns := [], harness := (true, "4ec6f1fdff14cd7787b0100f5fe246077b2a6a03a1956e4398415cecd4166c86"), looks := true }, kinds := [], alts := [], laidByText := true, laidKinds := [.data, .data], laidTests := true, laidLooks := .later }
def PickJoinsUptoCardSaid : Prop := Claim7.holds Tryz.pinned (.plain (OpenSpec.upto pickJoinsSpec)) pickJoinsUptoCard

/-- THE SECOND FORM's CARD OF 'afterwordlaw13.PickReduced'. -/
def pickReducedUptoCard : Claim7 := { stood := { row := pickReducedUptoRow, standIns := [], harness := (true, "4ec6f1fdff14cd7787b0100f5fe246077b2a6a03a1956e4398415cecd4166c86"), looks := true }, kinds := [], alts := [], laidByText := true, laidKinds := [.data, .data], laidTests := true, laidLooks := .later }
def PickReducedUptoCardSaid : Prop := Claim7.holds Tryz.pinned (.plain (OpenSpec.upto pickReducedSpec)) pickReducedUptoCard

/-- THE SECOND FORM's CARD OF 'afterwordlaw13.PickRules'. -/
def pickRulesUptoCard : Claim7 := { stood := { row := pickRulesUptoRow, standIns := [], harness := (true, "4ec6f1fdff14cd7787b0100f5fe246077b2a6a03a1956e4398415cecd4166c86"), looks := true }, kinds := [], alts := [], laidByText := true, laidKinds := [.data, .data], laidTests := true, laidLooks := .later }
def PickRulesUptoCardSaid : Prop := Claim7.holds Tryz.pinned (.plain (OpenSpec.upto pickRulesSpec)) pickRulesUptoCard

/-- THE SECOND FORM's CARD OF 'afterwordlaw13.PickLossless'. -/
def pickLosslessUptoCard : Claim7 := { stood := { row := pickLosslessUptoRow, standIns := [], harness := (true, "4ec6f1fdff14cd7787b0100f5fe246077b2a6a03a1956e4398415cecd4166c86"), looks := true }, kinds := [], alts := [], laidByText := true, laidKinds := [.data, .data], laidTests := true, laidLooks := .later }
def PickLosslessUptoCardSaid : Prop := Claim7.holds Tryz.pinned (.plain (OpenSpec.upto pickLosslessSpec)) pickLosslessUptoCard

/-- THE SECOND FORM's CARD OF 'afterwordlaw13.PickBest'. -/
def pickBestUptoCard : Claim7 := { stood := { row := pickBestUptoRow, standIns := [], harness := (true, "4ec6f1fdff14cd7787b0100f5fe246077b2a6a03a1956e4398415cecd4166c86"), looks := true }, kinds := [], alts := [], laidByText := true, laidKinds := [.data, .data], laidTests := true, laidLooks := .later }
def PickBestUptoCardSaid : Prop := Claim7.holds Tryz.pinned (.plain (OpenSpec.upto pickBestSpec)) pickBestUptoCard

/-- THE SECOND FORM's CARD OF 'afterwordlaw13.PickRing'. -/
def pickRingUptoCard : Claim7 := { stood := { row := pickRingUptoRow, standIns := [], harness := (true, "4ec6f1fdff14cd7787b0100f5fe246077b2a6a03a1956e4398415cecd4166c86"), looks := true }, kinds := [], alts := [], laidByText := true, laidKinds := [.data, .data], laidTests := true, laidLooks := .later }
def PickRingUptoCardSaid : Prop := Claim7.holds Tryz.pinned (.plain (OpenSpec.upto pickRingSpec)) pickRingUptoCard

/-- THE SECOND FORM's CARD OF 'afterwordlaw13.PickOrder'. -/
def pickOrderUptoCard : Claim7 := { stood := { row := pickOrderUptoRow, standIns := [], harness := (true, "4ec6f1fdff14cd7787b0100f5fe246077b2a6a03a1956e4398415cecd4166c86"), looks := true }, kinds := [], alts := [], laidByText := true, laidKinds := [.data, .data], laidTests := true, laidLooks := .later }
def PickOrderUptoCardSaid : Prop := Claim7.holds Tryz.pinned (.plain (OpenSpec.upto pickOrderSpec)) pickOrderUptoCard
end Rows
end Go.Proofs.YtonjmakaebecjaaGreatDoor
