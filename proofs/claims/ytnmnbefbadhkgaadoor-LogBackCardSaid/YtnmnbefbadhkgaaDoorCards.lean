/-
  DERIVED. GIVEN WITH THE SEED: THE CARDS: each row of YtnmnbefbadhkgaaDoorRows.lean that lists a variable, with what it lists TIED to the program's text (the seventh form; the later family's looks); each row that meets fmt, with fmt's text TOLD by the authors' own Lean function (tested against real Go, not proved from fmt's source: count such statements apart). THE CARD IS WHAT COUNTS. Prove the row's statement (the work); the ties are given (YtnmnbefbadhkgaaDoorTie.lean); close each card by the builder's one call (the guide's Derived/Test/ToyasCard.lean, 'card_holds'). Laid BY PROGRAM, IN A SANDBOX (cutbox-door.mjs). By AI agents, Wed Nov 11 2026. No macro, syntax, notation, axiom, sorry.
-/
import Derived.Test.YtnmnbefbadhkgaaDoorRows
import GoSem.ClaimSeven
namespace Go.Proofs.YtnmnbefbadhkgaaDoor
namespace Rows

/-- THE TIED CARD OF 'bonsailaw14.SpanMoved'. -/
def spanMovedCard : Claim7 := { stood := { row := spanMovedRow, standIns := [], harness := (true, "8d8b9d8e9f75139bea3747539a16caf3ee1c4bd9de0a6cb7dfca89df1650cbd5"), looks := true }, kinds := [], alts := [], laidByText := true, laidKinds := [.data, .data, .data], laidTests := true, laidLooks := .later }
def SpanMovedCardSaid : Prop := Claim7.holds Tryd.pinned (.plain (OpenSpec.ofChange spanMovedSpec)) spanMovedCard

/-- THE TIED CARD OF 'bonsailaw27.LogOne'. -/
def logOneCard : Claim7 := { stood := { row := logOneRow, standIns := [], harness := (true, "8d8b9d8e9f75139bea3747539a16caf3ee1c4bd9de0a6cb7dfca89df1650cbd5"), looks := true }, kinds := [], alts := [], laidByText := true, laidKinds := [.data, .data, .data], laidTests := true, laidLooks := .later }
def LogOneCardSaid : Prop := Claim7.holds Tryd.pinned (.plain (OpenSpec.ofChange logOneSpec)) logOneCard

/-- THE TIED CARD OF 'bonsailaw14.SpanJoins'. -/
def spanJoinsCard : Claim7 := { stood := { row := spanJoinsRow, standIns := [], harness := (true, "8d8b9d8e9f75139bea3747539a16caf3ee1c4bd9de0a6cb7dfca89df1650cbd5"), looks := true }, kinds := [], alts := [], laidByText := true, laidKinds := [.data, .data, .data], laidTests := true, laidLooks := .later }
def SpanJoinsCardSaid : Prop := Claim7.holds Tryd.pinned (.plain (OpenSpec.ofChange spanJoinsSpec)) spanJoinsCard

/-- THE TIED CARD OF 'bonsailaw14.SpanBack'. -/
def spanBackCard : Claim7 := { stood := { row := spanBackRow, standIns := [], harness := (true, "8d8b9d8e9f75139bea3747539a16caf3ee1c4bd9de0a6cb7dfca89df1650cbd5"), looks := true }, kinds := [], alts := [], laidByText := true, laidKinds := [.data, .data, .data, .data, .pinned], laidTests := true, laidLooks := .later }
def SpanBackCardSaid : Prop := Claim7.holds Tryd.pinned (.plain (OpenSpec.ofChange spanBackSpec)) spanBackCard

/-- THE TIED CARD OF 'bonsailaw27.LogBack'. -/
def logBackCard : Claim7 := { stood := { row := logBackRow, standIns := [], harness := (true, "8d8b9d8e9f75139bea3747539a16caf3ee1c4bd9de0a6cb7dfca89df1650cbd5"), looks := true }, kinds := [], alts := [], laidByText := true, laidKinds := [.data, .data, .data, .data, .sentinel, .sentinel, .pinned], laidTests := true, laidLooks := .later }
def LogBackCardSaid : Prop := Claim7.holds Tryd.pinned (.plain (OpenSpec.ofChange logBackSpec)) logBackCard

/-- THE SECOND FORM's CARD OF 'bonsailaw14.SpanMoved'. -/
def spanMovedUptoCard : Claim7 := { stood := { row := spanMovedUptoRow, standIns := [], harness := (true, "8d8b9d8e9f75139bea3747539a16caf3ee1c4bd9de0a6cb7dfca89df1650cbd5"), looks := true }, kinds := [], alts := [], laidByText := true, laidKinds := [.data, .data, .data], laidTests := true, laidLooks := .later }
def SpanMovedUptoCardSaid : Prop := Claim7.holds Tryd.pinned (.plain (OpenSpec.upto spanMovedSpec)) spanMovedUptoCard

/-- THE SECOND FORM's CARD OF 'bonsailaw27.LogOne'. -/
def logOneUptoCard : Claim7 := { stood := { row := logOneUptoRow, standIns := [], harness := (true, "8d8b9d8e9f75139bea3747539a16caf3ee1c4bd9de0a6cb7dfca89df1650cbd5"), looks := true }, kinds := [], alts := [], laidByText := true, laidKinds := [.data, .data, .data], laidTests := true, laidLooks := .later }
def LogOneUptoCardSaid : Prop := Claim7.holds Tryd.pinned (.plain (OpenSpec.upto logOneSpec)) logOneUptoCard

/-- THE SECOND FORM's CARD OF 'bonsailaw14.SpanJoins'. -/
def spanJoinsUptoCard : Claim7 := { stood := { row := spanJoinsUptoRow, standIns := [], harness := (true, "8d8b9d8e9f75139bea3747539a16caf3ee1c4bd9de0a6cb7dfca89df1650cbd5"), looks := true }, kinds := [], alts := [], laidByText := true, laidKinds := [.data, .data, .data], laidTests := true, laidLooks := .later }
def SpanJoinsUptoCardSaid : Prop := Claim7.holds Tryd.pinned (.plain (OpenSpec.upto spanJoinsSpec)) spanJoinsUptoCard

/-- THE SECOND FORM's CARD OF 'bonsailaw14.SpanBack'. -/
def spanBackUptoCard : Claim7 := { stood := { row := spanBackUptoRow, standIns := [], harness := (true, "8d8b9d8e9f75139bea3747539a16caf3ee1c4bd9de0a6cb7dfca89df1650cbd5"), looks := true }, kinds := [], alts := [], laidByText := true, laidKinds := [.data, .data, .data, .data, .pinned], laidTests := true, laidLooks := .later }
def SpanBackUptoCardSaid : Prop := Claim7.holds Tryd.pinned (.plain (OpenSpec.upto spanBackSpec)) spanBackUptoCard

/-- THE SECOND FORM's CARD OF 'bonsailaw27.LogBack'. -/
def logBackUptoCard : Claim7 := { stood := { row := logBackUptoRow, standIns := [], harness := (true, "8d8b9d8e9f75139bea3747539a16caf3ee1c4bd9de0a6cb7dfca89df1650cbd5"), looks := true }, kinds := [], alts := [], laidByText := true, laidKinds := [.data, .data, .data, .data, .sentinel, .sentinel, .pinned], laidTests := true, laidLooks := .later }
def LogBackUptoCardSaid : Prop := Claim7.holds Tryd.pinned (.plain (OpenSpec.upto logBackSpec)) logBackUptoCard
end Rows
end Go.Proofs.YtnmnbefbadhkgaaDoor
