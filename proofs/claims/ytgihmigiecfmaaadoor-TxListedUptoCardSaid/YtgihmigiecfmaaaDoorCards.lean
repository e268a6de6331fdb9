/-
  DERIVED. GIVEN WITH THE SEED: THE CARDS: each row of YtgihmigiecfmaaaDoorRows.lean that lists a variable, with what it lists TIED to the program's text (the seventh form; the later family's looks); each row that meets fmt, with fmt's text TOLD by the authors' own Lean function (tested against real Go, not proved from fmt's source: count such statements apart). THE CARD IS WHAT COUNTS. Prove the row's statement (the work); the ties are given (YtgihmigiecfmaaaDoorTie.lean); close each card by the builder's one call (the guide's Derived/Test/ToyasCard.lean, 'card_holds'). Laid BY PROGRAM, IN A SANDBOX (cutbox-door.mjs). By AI agents, Wed Nov 11 2026. No macro, syntax, notation, axiom, sorry.
-/
import Derived.Test.YtgihmigiecfmaaaDoorRows
import GoSem.ClaimSeven
namespace Go.Proofs.YtgihmigiecfmaaaDoor
namespace Rows

/-- THE TIED CARD OF 'waybilllaw15.TxOwn'. -/
def txOwnCard : Claim7 := { stood := { row := txOwnRow, standIns := [], harness := (true, "d08c1bd6738a9588f5d188ff8628fd1091bf2659374ea0f3fed4f36c79860471"), looks := false }, kinds := [], alts := [], laidByText := true, laidKinds := [.data, .data], laidTests := true, laidLooks := .later }
def TxOwnCardSaid : Prop := Claim7.holds Tryd.pinned (.plain (OpenSpec.ofChange txOwnSpec)) txOwnCard

/-- THE TIED CARD OF 'waybilllaw15.TxListed'. -/
def txListedCard : Claim7 := { stood := { row := txListedRow, standIns := [], harness := (true, "d08c1bd6738a9588f5d188ff8628fd1091bf2659374ea0f3fed4f36c79860471"), looks := false }, kinds := [], alts := [], laidByText := true, laidKinds := [.data, .data], laidTests := true, laidLooks := .later }
def TxListedCardSaid : Prop := Claim7.holds Tryd.pinned (.plain (OpenSpec.ofChange txListedSpec)) txListedCard

/-- THE SECOND FORM's CARD OF 'waybilllaw15.TxOwn'. -/
def txOwnUptoCard : Claim7 := { stood := { row := txOwnUptoRow, standIns := [], harness := (true, "d08c1bd6738a9588f5d188ff8628fd1091bf2659374ea0f3fed4f36c79860471"), looks := false }, kinds := [], alts := [], laidByText := true, laidKinds := [.data, .data], laidTests := true, laidLooks := .later }
def TxOwnUptoCardSaid : Prop := Claim7.holds Tryd.pinned (.plain (OpenSpec.upto txOwnSpec)) txOwnUptoCard

/-- THE SECOND FORM's CARD OF 'waybilllaw15.TxListed'. -/
def txListedUptoCard : Claim7 := { stood := { row := txListedUptoRow, standIns := [], harness := (true, "d08c1bd6738a9588f5d188ff8628fd1091bf2659374ea0f3fed4f36c79860471"), looks := false }, kinds := [], alts := [], laidByText := true, laidKinds := [.data, .data], laidTests := true, laidLooks := .later }
def TxListedUptoCardSaid : Prop := Claim7.holds Tryd.pinned (.plain (OpenSpec.upto txListedSpec)) txListedUptoCard
end Rows
end Go.Proofs.YtgihmigiecfmaaaDoor
