/-
  DERIVED. GIVEN WITH THE SEED: THE CARDS: each row of YtnaafeeloicklaaDoorRows.lean that lists a variable, with what it lists TIED to the program's text (the seventh form; the later family's looks); each row that meets fmt, with fmt's text TOLD by the authors' own Lean function (tested against real Go, not proved from fmt's source: count such statements apart). THE CARD IS WHAT COUNTS. Prove the row's statement (the work); the ties are given (YtnaafeeloicklaaDoorTie.lean); close each card by the builder's one call (the guide's Derived/Test/ToyasCard.lean, 'card_holds'). Laid BY PROGRAM, IN A SANDBOX (cutbox-door.mjs). By AI agents, Wed Nov 11 2026. No macro, syntax, notation, axiom, sorry.
-/
import Derived.Test.YtnaafeeloicklaaDoorRows
import GoSem.ClaimSeven
namespace Go.Proofs.YtnaafeeloicklaaDoor
namespace Rows

/-- THE TIED CARD OF 'waybilllaw15.TxSpoilt'. -/
def txSpoiltCard : Claim7 := { stood := { row := txSpoiltRow, standIns := [], harness := (true, "e8e49415bdbe3972ca2697595fa9202f13d5d818f01e5ddc29efd4f84612bad0"), looks := false }, kinds := [], alts := [], laidByText := true, laidKinds := [.data, .data], laidTests := true, laidLooks := .later }
def TxSpoiltCardSaid : Prop := Claim7.holds Tryd.pinned (.plain (OpenSpec.ofChange txSpoiltSpec)) txSpoiltCard

/-- THE TIED CARD OF 'waybilllaw15.TxFields'. -/
def txFieldsCard : Claim7 := { stood := { row := txFieldsRow, standIns := [], harness := (true, "e8e49415bdbe3972ca2697595fa9202f13d5d818f01e5ddc29efd4f84612bad0"), looks := false }, kinds := [], alts := [], laidByText := true, laidKinds := [.data, .data], laidTests := true, laidLooks := .later }
def TxFieldsCardSaid : Prop := Claim7.holds Tryd.pinned (.plain (OpenSpec.ofChange txFieldsSpec)) txFieldsCard

/-- THE TIED CARD OF 'waybilllaw15.TxListed'. -/
def txListedCard : Claim7 := { stood := { row := txListedRow, standIns := [], harness := (true, "e8e49415bdbe3972ca2697595fa9202f13d5d818f01e5ddc29efd4f84612bad0"), looks := false }, kinds := [], alts := [], laidByText := true, laidKinds := [.data, .data], laidTests := true, laidLooks := .later }
def TxListedCardSaid : Prop := Claim7.holds Tryd.pinned (.plain (OpenSpec.ofChange txListedSpec)) txListedCard

/-- THE TIED CARD OF 'waybilllaw15.TxOwn'. -/
def txOwnCard : Claim7 := { stood := { row := txOwnRow, standIns := [], harness := (true, "e8e49415bdbe3972ca2697595fa9202f13d5d818f01e5ddc29efd4f84612bad0"), looks := false }, kinds := [], alts := [], laidByText := true, laidKinds := [.data, .data], laidTests := true, laidLooks := .later }
def TxOwnCardSaid : Prop := Claim7.holds Tryd.pinned (.plain (OpenSpec.ofChange txOwnSpec)) txOwnCard

/-- THE SECOND FORM's CARD OF 'waybilllaw15.TxSpoilt'. -/
def txSpoiltUptoCard : Claim7 := { stood := { row := txSpoiltUptoRow, standIns := [], harness := (true, "e8e49415bdbe3972ca2697595fa9202f13d5d818f01e5ddc29efd4f84612bad0"), looks := false }, kinds := [], alts := [], laidByText := true, laidKinds := [.data, .data], laidTests := true, laidLooks := .later }
def TxSpoiltUptoCardSaid : Prop := Claim7.holds Tryd.pinned (.plain (OpenSpec.upto txSpoiltSpec)) txSpoiltUptoCard

/-- THE SECOND FORM's CARD OF 'waybilllaw15.TxFields'. -/
def txFieldsUptoCard : Claim7 := { stood := { row := txFieldsUptoRow, standIns := [], harness := (true, "e8e49415bdbe3972ca2697595fa9202f13d5d818f01e5ddc29efd4f84612bad0"), looks := false }, kinds := [], alts := [], laidByText := true, laidKinds := [.data, .data], laidTests := true, laidLooks := .later }
def TxFieldsUptoCardSaid : Prop := Claim7.holds Tryd.pinned (.plain (OpenSpec.upto txFieldsSpec)) txFieldsUptoCard

/-- THE SECOND FORM's CARD OF 'waybilllaw15.TxListed'. -/
def txListedUptoCard : Claim7 := { stood := { row := txListedUptoRow, standIns := [], harness := (true, "e8e49415bdbe3972ca2697595fa9202f13d5d818f01e5ddc29efd4f84612bad0"), looks := false }, kinds := [], alts := [], laidByText := true, laidKinds := [.data, .data], laidTests := true, laidLooks := .later }
def TxListedUptoCardSaid : Prop := Claim7.holds Tryd.pinned (.plain (OpenSpec.upto txListedSpec)) txListedUptoCard

/-- THE SECOND FORM's CARD OF 'waybilllaw15.TxOwn'. -/
def txOwnUptoCard : Claim7 := { stood := { row := txOwnUptoRow, standIns := [], harness := (true, "e8e49415bdbe3972ca2697595fa9202f13d5d818f01e5ddc29efd4f84612bad0"), looks := false }, kinds := [], alts := [], laidByText := true, laidKinds := [.data, .data], laidTests := true, laidLooks := .later }
def TxOwnUptoCardSaid : Prop := Claim7.holds Tryd.pinned (.plain (OpenSpec.upto txOwnSpec)) txOwnUptoCard
end Rows
end Go.Proofs.YtnaafeeloicklaaDoor
