/-
  DERIVED. GIVEN WITH THE SEED: THE CARDS: each row of YtnaafeeloicklaaGreatDoorRows.lean that lists a variable, with what it lists TIED to the program's text (the seventh form; the later family's looks); each row that meets fmt, with fmt's text TOLD by the authors' own Lean function (tested against real Go, not proved from fmt's source: count such statements apart). THE CARD IS WHAT COUNTS. Prove the row's statement (the work); the ties are given (YtnaafeeloicklaaGreatDoorTie.lean); close each card by the builder's one call (the guide's Derived/Test/ToyasCard.lean, 'card_holds'). Laid BY PROGRAM, IN A SANDBOX (cutbox-door.mjs). By AI agents, Wed Nov 11 2026. No macro, syntax, notation, axiom, sorry.
-/
import Derived.Test.YtnaafeeloicklaaGreatDoorRows
import GoSem.ClaimSeven
namespace Go.Proofs.YtnaafeeloicklaaGreatDoor
namespace Rows

/-- THE TIED CARD OF 'waybilllaw15.TxRound'. -/
def txRoundCard : Claim7 := { stood := { row := txRoundRow, standIns := [], harness := (true, "fb0efc83e1fc9b02b2db4ca01efe9801558c6984c0dcef965309749b311d1a48"), looks := false }, kinds := [], alts := [], laidByText := true, laidKinds := [.data, .data, .data], laidTests := true, laidLooks := .later }
def TxRoundCardSaid : Prop := Claim7.holds Tryz.pinned (.plain (OpenSpec.ofChange txRoundSpec)) txRoundCard

/-- THE TIED CARD OF 'waybilllaw15.TxEncodes'. -/
def txEncodesCard : Claim7 := { stood := { row := txEncodesRow, standIns := [], harness := (true, "fb0efc83e1fc9b02b2db4ca01efe9801558c6984c0dcef965309749b311d1a48"), looks := false }, kinds := [], alts := [], laidByText := true, laidKinds := [.data, .data, .data, .data, .data], laidTests := true, laidLooks := .later }
def TxEncodesCardSaid : Prop := Claim7.holds Tryz.pinned (.plain (OpenSpec.ofChange txEncodesSpec)) txEncodesCard

/-- THE TIED CARD OF 'waybilllaw15.TxDrafts'. -/
def txDraftsCard : Claim7 := { stood := { row := txDraftsRow, standIns := [], harness := (true, "fb0efc83e1fc9b02b2db4ca01efe9801558c6984c0dcef965309749b311d1a48"), looks := false }, kinds := [], alts := [], laidByText := true, laidKinds := [.data, .data], laidTests := true, laidLooks := .later }
def TxDraftsCardSaid : Prop := Claim7.holds Tryz.pinned (.plain (OpenSpec.ofChange txDraftsSpec)) txDraftsCard

/-- THE SECOND FORM's CARD OF 'waybilllaw15.TxRound'. -/
def txRoundUptoCard : Claim7 := { stood := { row := txRoundUptoRow, standIns := [], harness := (true, "fb0efc83e1fc9b02b2db4ca01efe9801558c6984c0dcef965309749b311d1a48"), looks := false }, kinds := [], alts := [], laidByText := true, laidKinds := [.data, .data, .data], laidTests := true, laidLooks := .later }
def TxRoundUptoCardSaid : Prop := Claim7.holds Tryz.pinned (.plain (OpenSpec.upto txRoundSpec)) txRoundUptoCard

/-- THE SECOND FORM's CARD OF 'waybilllaw15.TxEncodes'. -/
def txEncodesUptoCard : Claim7 := { stood := { row := txEncodesUptoRow, standIns := [], harness := (true, "fb0efc83e1fc9b02b2db4ca01efe9801558c6984c0dcef965309749b311d1a48"), looks := false }, kinds := [], alts := [], laidByText := true, laidKinds := [.data, .data, .data, .data, .data], laidTests := true, laidLooks := .later }
def TxEncodesUptoCardSaid : Prop := Claim7.holds Tryz.pinned (.plain (OpenSpec.upto txEncodesSpec)) txEncodesUptoCard

/-- THE SECOND FORM's CARD OF 'waybilllaw15.TxDrafts'. -/
def txDraftsUptoCard : Claim7 := { stood := { row := txDraftsUptoRow, standIns := [], harness := (true, "fb0efc83e1fc9b02b2db4ca01efe9801558c6984c0dcef965309749b311d1a48"), looks := false }, kinds := [], alts := [], laidByText := true, laidKinds := [.data, .data], laidTests := true, laidLooks := .later }
def TxDraftsUptoCardSaid : Prop := Claim7.holds Tryz.pinned (.plain (OpenSpec.upto txDraftsSpec)) txDraftsUptoCard
end Rows
end Go.Proofs.YtnaafeeloicklaaGreatDoor
