/-
  DERIVED. GIVEN WITH THE SEED: THE CARDS: each row of YtejelaaocjfjbaaDoorRows.lean that lists a variable, with what it lists TIED to the program's text (the seventh form; the later family's looks); each row that meets fmt, with fmt's text TOLD by the authors' own Lean function (tested against real Go, not proved from fmt's source: count such statements apart). THE CARD IS WHAT COUNTS. Prove the row's statement (the work); the ties are given (YtejelaaocjfjbaaDoorTie.lean); close each card by the builder's one call (the guide's Derived/Test/ToyasCard.lean, 'card_holds'). Laid BY PROGRAM, IN A SANDBOX (cutbox-door.mjs). By AI agents, Wed Nov 11 2026. No macro, syntax, notation, axiom, sorry.
-/
import Derived.Test.YtejelaaocjfjbaaDoorRows
import GoSem.ClaimSeven
namespace Go.Proofs.YtejelaaocjfjbaaDoor
namespace Rows

/-- THE TIED CARD OF 'waybilllaw15.TxSames'. -/
def txSamesCard : Claim7 := { stood := { row := txSamesRow, standIns := [], harness := (true, "486edc689b6e450c4749b5556b5865eb393dac8b8a54d7aa99e8645ee5a07f22"), looks := false }, kinds := [], alts := [], laidByText := true, laidKinds := [.data, .data], laidTests := true, laidLooks := .later }
def TxSamesCardSaid : Prop := Claim7.holds Tryd.pinned (.plain (OpenSpec.ofChange txSamesSpec)) txSamesCard

/-- THE TIED CARD OF 'waybilllaw14.AccessDigests'. -/
def accessDigestsCard : Claim7 := { stood := { row := accessDigestsRow, standIns := [], harness := (true, "486edc689b6e450c4749b5556b5865eb393dac8b8a54d7aa99e8645ee5a07f22"), looks := false }, kinds := [], alts := [], laidByText := true, laidKinds := [.data, .data, .data], laidTests := true, laidLooks := .later }
def AccessDigestsCardSaid : Prop := Claim7.holds Tryd.pinned (.plain (OpenSpec.ofChange accessDigestsSpec)) accessDigestsCard

/-- THE TIED CARD OF 'waybilllaw15.TxSpoilt'. -/
def txSpoiltCard : Claim7 := { stood := { row := txSpoiltRow, standIns := [], harness := (true, "486edc689b6e450c4749b5556b5865eb393dac8b8a54d7aa99e8645ee5a07f22"), looks := false }, kinds := [], alts := [], laidByText := true, laidKinds := [.data, .data], laidTests := true, laidLooks := .later }
def TxSpoiltCardSaid : Prop := Claim7.holds Tryd.pinned (.plain (OpenSpec.ofChange txSpoiltSpec)) txSpoiltCard

/-- THE TIED CARD OF 'waybilllaw15.TxFields'. -/
def txFieldsCard : Claim7 := { stood := { row := txFieldsRow, standIns := [], harness := (true, "486edc689b6e450c4749b5556b5865eb393dac8b8a54d7aa99e8645ee5a07f22"), looks := false }, kinds := [], alts := [], laidByText := true, laidKinds := [.data, .data], laidTests := true, laidLooks := .later }
def TxFieldsCardSaid : Prop := Claim7.holds Tryd.pinned (.plain (OpenSpec.ofChange txFieldsSpec)) txFieldsCard

/-- THE TIED CARD OF 'waybilllaw15.TxOwn'. -/
def txOwnCard : Claim7 := { stood := { row := txOwnRow, standIns := [], harness := (true, "486edc689b6e450c4749b5556b5865eb393dac8b8a54d7aa99e8645ee5a07f22"), looks := false }, kinds := [], alts := [], laidByText := true, laidKinds := [.data, .data], laidTests := true, laidLooks := .later }
def TxOwnCardSaid : Prop := Claim7.holds Tryd.pinned (.plain (OpenSpec.ofChange txOwnSpec)) txOwnCard

/-- THE TIED CARD OF 'waybilllaw15.TxListed'. -/
def txListedCard : Claim7 := { stood := { row := txListedRow, standIns := [], harness := (true, "486edc689b6e450c4749b5556b5865eb393dac8b8a54d7aa99e8645ee5a07f22"), looks := false }, kinds := [], alts := [], laidByText := true, laidKinds := [.data, .data], laidTests := true, laidLooks := .later }
def TxListedCardSaid : Prop := Claim7.holds Tryd.pinned (.plain (OpenSpec.ofChange txListedSpec)) txListedCard

/-- THE SECOND FORM's CARD OF 'waybilllaw15.TxSames'. -/
def txSamesUptoCard : Claim7 := { stood := { row := txSamesUptoRow, standIns := [], harness := (true, "486edc689b6e450c4749b5556b5865eb393dac8b8a54d7aa99e8645ee5a07f22"), looks := false }, kinds := [], alts := [], laidByText := true, laidKinds := [.data, .data], laidTests := true, laidLooks := .later }
def TxSamesUptoCardSaid : Prop := Claim7.holds Tryd.pinned (.plain (OpenSpec.upto txSamesSpec)) txSamesUptoCard

/-- THE SECOND FORM's CARD OF 'waybilllaw14.AccessDigests'. -/
def accessDigestsUptoCard : Claim7 := { stood := { row := accessDigestsUptoRow, standIns := [], harness := (true, "486edc689b6e450c4749b5556b5865eb393dac8b8a54d7aa99e8645ee5a07f22"), looks := false }, kinds := [], alts := [], laidByText := true, laidKinds := [.data, .data, .data], laidTests := true, laidLooks := .later }
def AccessDigestsUptoCardSaid : Prop := Claim7.holds Tryd.pinned (.plain (OpenSpec.upto accessDigestsSpec)) accessDigestsUptoCard

/-- THE SECOND FORM's CARD OF 'waybilllaw15.TxSpoilt'. -/
def txSpoiltUptoCard : Claim7 := { stood := { row := txSpoiltUptoRow, standIns := [], harness := (true, "486edc689b6e450c4749b5556b5865eb393dac8b8a54d7aa99e8645ee5a07f22"), looks := false }, kinds := [], alts := [], laidByText := true, laidKinds := [.data, .data], laidTests := true, laidLooks := .later }
def TxSpoiltUptoCardSaid : Prop := Claim7.holds Tryd.pinned (.plain (OpenSpec.upto txSpoiltSpec)) txSpoiltUptoCard

/-- THE SECOND FORM's CARD OF 'waybilllaw15.TxFields'. -/
def txFieldsUptoCard : Claim7 := { stood := { row := txFieldsUptoRow, standIns := [], harness := (true, "486edc689b6e450c4749b5556b5865eb393dac8b8a54d7aa99e8645ee5a07f22"), looks := false }, kinds := [], alts := [], laidByText := true, laidKinds := [.data, .data], laidTests := true, laidLooks := .later }
def TxFieldsUptoCardSaid : Prop := Claim7.holds Tryd.pinned (.plain (OpenSpec.upto txFieldsSpec)) txFieldsUptoCard

/-- THE SECOND FORM's CARD OF 'waybilllaw15.TxOwn'. -/
def txOwnUptoCard : Claim7 := { stood := { row := txOwnUptoRow, standIns := [], harness := (true, "486edc689b6e450c4749b5556b5865eb393dac8b8a54d7aa99e8645ee5a07f22"), looks := false }, kinds := [], alts := [], laidByText := true, laidKinds := [.data, .data], laidTests := true, laidLooks := .later }
def TxOwnUptoCardSaid : Prop := Claim7.holds Tryd.pinned (.plain (OpenSpec.upto txOwnSpec)) txOwnUptoCard

/-- THE SECOND FORM's CARD OF 'waybilllaw15.TxListed'. -/
def txListedUptoCard : Claim7 := { stood := { row := txListedUptoRow, standIns := [], harness := (true, "486edc689b6e450c4749b5556b5865eb393dac8b8a54d7aa99e8645ee5a07f22"), looks := false }, kinds := [], alts := [], laidByText := true, laidKinds := [.data, .data], laidTests := true, laidLooks := .later }
def TxListedUptoCardSaid : Prop := Claim7.holds Tryd.pinned (.plain (OpenSpec.upto txListedSpec)) txListedUptoCard
end Rows
end Go.Proofs.YtejelaaocjfjbaaDoor
