/-
  DERIVED. GIVEN WITH THE SEED: THE PROGRAM's TIES (one call each: nine closed facts by the kernel) AND EACH ROW's TIE, after the 31st guide's Derived/Test/Toyas{Tie, Card}.lean. No idea stands in it: it is a product of the set-up. Laid BY PROGRAM, IN A SANDBOX (cutbox-door.mjs). By AI agents, Wed Nov 11 2026. No macro, syntax, notation, axiom, sorry.
-/
import Derived.Test.YtejelaaocjfjbaaDoorRows
import Derived.LaidByTextLater
import Derived.SevenTiedAt
import Derived.LaidSub
import Derived.LaidOnce
namespace Go.Proofs.YtejelaaocjfjbaaDoor
open Go
set_option maxRecDepth 100000
theorem seatTie1 : Tryd.prog.laidByTextLater [("waybill/keccak.first", Rows.laid_waybill_keccak_first), ("waybill/waybillplay.markHash", Rows.laid_waybill_waybillplay_markHash), ("waybill/waybillplay.markAddress", Rows.laid_waybill_waybillplay_markAddress), ("waybill/waybillref02.rounds", Rows.laid_waybill_waybillref02_rounds), ("waybill/waybillref02.turns", Rows.laid_waybill_waybillref02_turns)] [.data, .data, .data, .data, .data] true :=
  Program.laidByTextLater_by_one 34 8 33 (by kernel_rfl) (by kernel_rfl) (by kernel_rfl) (by kernel_rfl) (by kernel_rfl) (by kernel_rfl) (fun _ _ => by kernel_rfl)
theorem noOwnUnsafe : Tryd.pinned.checked.prog.headLifts.contains "ownunsafe" = false := by kernel_rfl
theorem tie : Tryd.prog.laidByTextLater [("waybill/waybillplay.markHash", Rows.laid_waybill_waybillplay_markHash), ("waybill/waybillplay.markAddress", Rows.laid_waybill_waybillplay_markAddress)] [.data, .data] true :=
  Program.laidByTextLater.sub seatTie1 ["waybill/waybillplay.markHash", "waybill/waybillplay.markAddress"] (by kernel_rfl) (by kernel_rfl)
theorem txSames_row_tie : Rows.txSamesRow.laidByTextAt .later Tryd.pinned [.data, .data] true :=
  OpenClaim.laidByTextAt_later rfl rfl tie noOwnUnsafe
theorem txSpoilt_row_tie : Rows.txSpoiltRow.laidByTextAt .later Tryd.pinned [.data, .data] true :=
  OpenClaim.laidByTextAt_later rfl rfl tie noOwnUnsafe
theorem txFields_row_tie : Rows.txFieldsRow.laidByTextAt .later Tryd.pinned [.data, .data] true :=
  OpenClaim.laidByTextAt_later rfl rfl tie noOwnUnsafe
theorem txOwn_row_tie : Rows.txOwnRow.laidByTextAt .later Tryd.pinned [.data, .data] true :=
  OpenClaim.laidByTextAt_later rfl rfl tie noOwnUnsafe
theorem txListed_row_tie : Rows.txListedRow.laidByTextAt .later Tryd.pinned [.data, .data] true :=
  OpenClaim.laidByTextAt_later rfl rfl tie noOwnUnsafe
theorem tie2 : Tryd.prog.laidByTextLater [("waybill/keccak.first", Rows.laid_waybill_keccak_first), ("waybill/waybillref02.rounds", Rows.laid_waybill_waybillref02_rounds), ("waybill/waybillref02.turns", Rows.laid_waybill_waybillref02_turns)] [.data, .data, .data] true :=
  Program.laidByTextLater.sub seatTie1 ["waybill/keccak.first", "waybill/waybillref02.rounds", "waybill/waybillref02.turns"] (by kernel_rfl) (by kernel_rfl)
theorem accessDigests_row_tie : Rows.accessDigestsRow.laidByTextAt .later Tryd.pinned [.data, .data, .data] true :=
  OpenClaim.laidByTextAt_later rfl rfl tie2 noOwnUnsafe
theorem txSamesUpto_row_tie : Rows.txSamesUptoRow.laidByTextAt .later Tryd.pinned [.data, .data] true :=
  OpenClaim.laidByTextAt_later rfl rfl tie noOwnUnsafe
theorem accessDigestsUpto_row_tie : Rows.accessDigestsUptoRow.laidByTextAt .later Tryd.pinned [.data, .data, .data] true :=
  OpenClaim.laidByTextAt_later rfl rfl tie2 noOwnUnsafe
theorem txSpoiltUpto_row_tie : Rows.txSpoiltUptoRow.laidByTextAt .later Tryd.pinned [.data, .data] true :=
  OpenClaim.laidByTextAt_later rfl rfl tie noOwnUnsafe
theorem txFieldsUpto_row_tie : Rows.txFieldsUptoRow.laidByTextAt .later Tryd.pinned [.data, .data] true :=
  OpenClaim.laidByTextAt_later rfl rfl tie noOwnUnsafe
theorem txOwnUpto_row_tie : Rows.txOwnUptoRow.laidByTextAt .later Tryd.pinned [.data, .data] true :=
  OpenClaim.laidByTextAt_later rfl rfl tie noOwnUnsafe
theorem txListedUpto_row_tie : Rows.txListedUptoRow.laidByTextAt .later Tryd.pinned [.data, .data] true :=
  OpenClaim.laidByTextAt_later rfl rfl tie noOwnUnsafe
end Go.Proofs.YtejelaaocjfjbaaDoor
