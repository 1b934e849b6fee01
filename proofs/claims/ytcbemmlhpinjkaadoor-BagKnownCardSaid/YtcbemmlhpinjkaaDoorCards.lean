/-
  DERIVED. GIVEN WITH THE SEED: THE CARDS: each row of YtcbemmlhpinjkaaDoorRows.lean that lists a variable, with what it lists TIED to the program's text (the seventh form; the later family's looks); each row that meets fmt, with fmt's text TOLD by the authors' own Lean function (tested against real Go, not proved from fmt's source: count such statements apart). THE CARD IS WHAT COUNTS. Prove the row's statement (the work); the ties are given (YtcbemmlhpinjkaaDoorTie.lean); close each card by the builder's one call (the guide's Derived/Test/ToyasCard.lean, 'card_holds'). Laid BY PROGRAM, IN A SANDBOX (cutbox-door.mjs). By AI agents, Wed Nov 11 2026. No macro, syntax, notation, axiom, sorry.
-/
import Derived.Test.YtcbemmlhpinjkaaDoorRows
import GoSem.ClaimSeven
namespace Go.Proofs.YtcbemmlhpinjkaaDoor
namespace Rows

/-- THE TIED CARD OF 'afterwordlaw04.BagBilinear'. -/
def bagBilinearCard : Claim7 := { stood := { row := bagBilinearRow, standIns := [], harness := (true, "4dfd2dc7aa4f7c903066883fa15e5498637a12e613fb0fa5de74b1d1a8ec7d14"), looks := true }, kinds := [], alts := [], laidByText := true, laidKinds := [.data, .data, .data], laidTests := true, laidLooks := .later }
def BagBilinearCardSaid : Prop := Claim7.holds Tryd.pinned (.plain (OpenSpec.ofChange bagBilinearSpec)) bagBilinearCard

/-- THE TIED CARD OF 'afterwordlaw04.BagGroup'. -/
def bagGroupCard : Claim7 := { stood := { row := bagGroupRow, standIns := [], harness := (true, "4dfd2dc7aa4f7c903066883fa15e5498637a12e613fb0fa5de74b1d1a8ec7d14"), looks := true }, kinds := [], alts := [], laidByText := true, laidKinds := [.data, .data, .data], laidTests := true, laidLooks := .later }
def BagGroupCardSaid : Prop := Claim7.holds Tryd.pinned (.plain (OpenSpec.ofChange bagGroupSpec)) bagGroupCard

/-- THE TIED CARD OF 'afterwordlaw04.BagLeast'. -/
def bagLeastCard : Claim7 := { stood := { row := bagLeastRow, standIns := [], harness := (true, "4dfd2dc7aa4f7c903066883fa15e5498637a12e613fb0fa5de74b1d1a8ec7d14"), looks := true }, kinds := [], alts := [], laidByText := true, laidKinds := [.data, .data, .data], laidTests := true, laidLooks := .later }
def BagLeastCardSaid : Prop := Claim7.holds Tryd.pinned (.plain (OpenSpec.ofChange bagLeastSpec)) bagLeastCard

/-- THE TIED CARD OF 'afterwordlaw04.BagBack'. -/
def bagBackCard : Claim7 := { stood := { row := bagBackRow, standIns := [], harness := (true, "4dfd2dc7aa4f7c903066883fa15e5498637a12e613fb0fa5de74b1d1a8ec7d14"), looks := true }, kinds := [], alts := [], laidByText := true, laidKinds := [.data, .data, .data], laidTests := true, laidLooks := .later }
def BagBackCardSaid : Prop := Claim7.holds Tryd.pinned (.plain (OpenSpec.ofChange bagBackSpec)) bagBackCard

/-- THE TIED CARD OF 'afterwordlaw04.BagKnown'. -/
def bagKnownCard : Claim7 := { stood := { row := bagKnownRow, standIns := [], harness := (true, "4dfd2dc7aa4f7c903066883fa15e5498637a12e613fb0fa5de74b1d1a8ec7d14"), looks := true }, kinds := [], alts := [], laidByText := true, laidKinds := [.data, .data, .data], laidTests := true, laidLooks := .later }
def BagKnownCardSaid : Prop := Claim7.holds Tryd.pinned (.plain (OpenSpec.ofChange bagKnownSpec)) bagKnownCard

/-- THE SECOND FORM's CARD OF 'afterwordlaw04.BagBilinear'. -/
def bagBilinearUptoCard : Claim7 := { stood := { row := bagBilinearUptoRow, standIns := [], harness := (true, "4dfd2dc7aa4f7c903066883fa15e5498637a12e613fb0fa5de74b1d1a8ec7d14"), looks := true }, kinds := [], alts := [], laidByText := true, laidKinds := [.data, .data, .data], laidTests := true, laidLooks := .later }
def BagBilinearUptoCardSaid : Prop := Claim7.holds Tryd.pinned (.plain (OpenSpec.upto bagBilinearSpec)) bagBilinearUptoCard

/-- THE SECOND FORM's CARD OF 'afterwordlaw04.BagGroup'. -/
def bagGroupUptoCard : Claim7 := { stood := { row := bagGroupUptoRow, standIns := [], harness := (true, "4dfd2dc7aa4f7c903066883fa15e5498637a12e613fb0fa5de74b1d1a8ec7d14"), looks := true }, kinds := [], alts := [], laidByText := true, laidKinds := [.data, .data, .data], laidTests := true, laidLooks := .later }
def BagGroupUptoCardSaid : Prop := Claim7.holds Tryd.pinned (.plain (OpenSpec.upto bagGroupSpec)) bagGroupUptoCard

/-- THE SECOND FORM's CARD OF 'afterwordlaw04.BagLeast'. -/
def bagLeastUptoCard : Claim7 := { stood := { row := bagLeastUptoRow, standIns := [], harness := (true, "4dfd2dc7aa4f7c903066883fa15e5498637a12e613fb0fa5de74b1d1a8ec7d14"), looks := true }, kinds := [], alts := [], laidByText := true, laidKinds := [.data, .data, .data], laidTests := true, laidLooks := .later }
def BagLeastUptoCardSaid : Prop := Claim7.holds Tryd.pinned (.plain (OpenSpec.upto bagLeastSpec)) bagLeastUptoCard

/-- THE SECOND FORM's CARD OF 'afterwordlaw04.BagBack'. -/
def bagBackUptoCard : Claim7 := { stood := { row := bagBackUptoRow, standIns := [], harness := (true, "4dfd2dc7aa4f7c903066883fa15e5498637a12e613fb0fa5de74b1d1a8ec7d14"), looks := true }, kinds := [], alts := [], laidByText := true, laidKinds := [.data, .data, .data], laidTests := true, laidLooks := .later }
def BagBackUptoCardSaid : Prop := Claim7.holds Tryd.pinned (.plain (OpenSpec.upto bagBackSpec)) bagBackUptoCard

/-- THE SECOND FORM's CARD OF 'afterwordlaw04.BagKnown'. -/
def bagKnownUptoCard : Claim7 := { stood := { row := bagKnownUptoRow, standIns := [], harness := (true, "4dfd2dc7aa4f7c903066883fa15e5498637a12e613fb0fa5de74b1d1a8ec7d14"), looks := true }, kinds := [], alts := [], laidByText := true, laidKinds := [.data, .data, .data], laidTests := true, laidLooks := .later }
def BagKnownUptoCardSaid : Prop := Claim7.holds Tryd.pinned (.plain (OpenSpec.upto bagKnownSpec)) bagKnownUptoCard
end Rows
end Go.Proofs.YtcbemmlhpinjkaaDoor
