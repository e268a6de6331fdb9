/-
  NARROWER THAN 'FOR EVERY INPUT', by the rows' own cells (each row's printed sentence says how): TxRound: laid · TxEncodes: laid · TxDrafts: laid.
  DERIVED. THE GIVEN ROWS OF THIS SEAT. 3 by the template 'for every input the law returns true; each argument reads behind the call as it read before'; 0 by the template 'total and deterministic' (their statements: YtnaafeeloicklaaGreatDoorTotals.lean).
  GIVEN WITH THE SEED: the statements are not yours to turn. If you find one false, say at which input.
  Laid BY PROGRAM, IN A SANDBOX (cutbox-rows.mjs): the forced cells as the released guide's own fill.sh prints them over the translation 9cf102211089a566… (all of the seat's roots in one cut). By AI agents, Wed Nov 11 2026. No macro, syntax, notation, axiom, sorry.
-/
import Derived.Test.YtnaafeeloicklaaGreatDoorChecked
import GoSem.Claim
import GoSem.ClaimJoined
import GoSem.ClaimMapViews
import Derived.JoinedTies
import Derived.KernelRfl
namespace Go.Proofs.YtnaafeeloicklaaGreatDoor
/- THE CELL 'sum', in the pinned program and in every row, IS THE sha256 OF THE DUMP (.gsa) THAT YtnaafeeloicklaaGreatDoorProg.lean LOADS. Nothing in Lean hashes anything: it is a label: what it is worth is what the hold of that sum in a sandbox is worth. -/
noncomputable def Tryz.pinned : Pinned := { name := "ytnaafeeloicklaagreatdoor", sum := "9cf102211089a56682169ed76008ed7f7ab3be863b9a6a435882b37c4caf7451", checked := Tryz.checked }
namespace Rows
def none {H : Type} : Left H := { results := [], args := [] }

/- WHAT THE LISTED PACKAGE-LEVEL VARIABLES READ AS WHEN THE CALL BEGINS. Each datum BY PROGRAM (the guide's laid-datum.mjs) off the statement by which the dump's own 'gosem.cut.vars' lays the variable. In a bare row this is a premise. The card (YtnaafeeloicklaaGreatDoorCards.lean) ties it to the program's text. -/
def laid_waybill_keccak_first {H : Type} : DataW H := .agg [.lit (.int .u8 1), .lit (.int .u8 6)]
def laid_waybill_waybillplay_markHash {H : Type} : DataW H := .agg [.lit (.int .u8 165), .lit (.int .u8 90), .lit (.int .u8 0), .lit (.int .u8 0), .lit (.int .u8 0), .lit (.int .u8 0), .lit (.int .u8 0), .lit (.int .u8 0), .lit (.int .u8 0), .lit (.int .u8 0), .lit (.int .u8 0), .lit (.int .u8 0), .lit (.int .u8 0), .lit (.int .u8 0), .lit (.int .u8 0), .lit (.int .u8 0), .lit (.int .u8 0), .lit (.int .u8 0), .lit (.int .u8 0), .lit (.int .u8 0), .lit (.int .u8 0), .lit (.int .u8 0), .lit (.int .u8 0), .lit (.int .u8 0), .lit (.int .u8 0), .lit (.int .u8 0), .lit (.int .u8 0), .lit (.int .u8 0), .lit (.int .u8 0), .lit (.int .u8 0), .lit (.int .u8 0), .lit (.int .u8 0)]
def laid_waybill_waybillplay_markAddress {H : Type} : DataW H := .agg [.lit (.int .u8 165), .lit (.int .u8 90), .lit (.int .u8 0), .lit (.int .u8 0), .lit (.int .u8 0), .lit (.int .u8 0), .lit (.int .u8 0), .lit (.int .u8 0), .lit (.int .u8 0), .lit (.int .u8 0), .lit (.int .u8 0), .lit (.int .u8 0), .lit (.int .u8 0), .lit (.int .u8 0), .lit (.int .u8 0), .lit (.int .u8 0), .lit (.int .u8 0), .lit (.int .u8 0), .lit (.int .u8 0), .lit (.int .u8 0)]
def laid_waybill_waybillref02_rounds {H : Type} : DataW H := .agg [.lit (.int .u64 1), .lit (.int .u64 32898), .lit (.int .u64 9223372036854808714), .lit (.int .u64 9223372039002292224), .lit (.int .u64 32907), .lit (.int .u64 2147483649), .lit (.int .u64 9223372039002292353), .lit (.int .u64 9223372036854808585), .lit (.int .u64 138), .lit (.int .u64 136), .lit (.int .u64 2147516425), .lit (.int .u64 2147483658), .lit (.int .u64 2147516555), .lit (.int .u64 9223372036854775947), .lit (.int .u64 9223372036854808713), .lit (.int .u64 9223372036854808579), .lit (.int .u64 9223372036854808578), .lit (.int .u64 9223372036854775936), .lit (.int .u64 32778), .lit (.int .u64 9223372039002259466), .lit (.int .u64 9223372039002292353), .lit (.int .u64 9223372036854808704), .lit (.int .u64 2147483649), .lit (.int .u64 9223372039002292232)]
def laid_waybill_waybillref02_turns {H : Type} : DataW H := .agg [.lit (.int .i64 0), .lit (.int .i64 1), .lit (.int .i64 62), .lit (.int .i64 28), .lit (.int .i64 27), .lit (.int .i64 36), .lit (.int .i64 44), .lit (.int .i64 6), .lit (.int .i64 55), .lit (.int .i64 20), .lit (.int .i64 3), .lit (.int .i64 10), .lit (.int .i64 43), .lit (.int .i64 25), .lit (.int .i64 39), .lit (.int .i64 41), .lit (.int .i64 45), .lit (.int .i64 15), .lit (.int .i64 21), .lit (.int .i64 8), .lit (.int .i64 18), .lit (.int .i64 2), .lit (.int .i64 61), .lit (.int .i64 56), .lit (.int .i64 14)]

/-- 'waybilllaw15.TxRound': WHATEVER THE INPUT: true; the input reads as it did. -/
def txRoundSpec : ChangeSpec := { name := "txRound", fn := fun _ => fun
  | [d] => { results := [.lit (.bool true)], args := [d] }
  | _ => none }
def txRoundRow : OpenClaim := { program := "ytnaafeeloicklaagreatdoor", sum := "9cf102211089a56682169ed76008ed7f7ab3be863b9a6a435882b37c4caf7451", func := "waybill/waybilllaw15.TxRound", spec := "txRound", inPlace := ["math/bits.Sub64"], unfollowed := true, recurses := true, named := ["waybill/waybillplay.markAddress", "waybill/waybillplay.markHash", "waybill/keccak.first"], apart := false, laid := [("waybill/keccak.first", laid_waybill_keccak_first), ("waybill/waybillplay.markHash", laid_waybill_waybillplay_markHash), ("waybill/waybillplay.markAddress", laid_waybill_waybillplay_markAddress)] }
def TxRoundSaid : Prop := txRoundRow.holds Tryz.pinned (OpenSpec.ofChange txRoundSpec)

/-- ITS FALSE NEIGHBOUR: 'it returns false'. Refute it at one input. -/
def txRoundWrong : ChangeSpec := { name := "txRound", fn := fun _ => fun
  | [d] => { results := [.lit (.bool false)], args := [d] }
  | _ => none }
def TxRoundWrongFalsely : Prop := txRoundRow.holds Tryz.pinned (OpenSpec.ofChange txRoundWrong)

/-- 'waybilllaw15.TxEncodes': WHATEVER THE INPUT: true; the input reads as it did. -/
def txEncodesSpec : ChangeSpec := { name := "txEncodes", fn := fun _ => fun
  | [d] => { results := [.lit (.bool true)], args := [d] }
  | _ => none }
def txEncodesRow : OpenClaim := { program := "ytnaafeeloicklaagreatdoor", sum := "9cf102211089a56682169ed76008ed7f7ab3be863b9a6a435882b37c4caf7451", func := "waybill/waybilllaw15.TxEncodes", spec := "txEncodes", inPlace := ["math/bits.Sub64"], unfollowed := true, recurses := true, named := ["waybill/waybillplay.markAddress", "waybill/waybillplay.markHash", "waybill/keccak.first", "waybill/waybillref02.rounds", "waybill/waybillref02.turns"], apart := false, laid := [("waybill/keccak.first", laid_waybill_keccak_first), ("waybill/waybillplay.markHash", laid_waybill_waybillplay_markHash), ("waybill/waybillplay.markAddress", laid_waybill_waybillplay_markAddress), ("waybill/waybillref02.rounds", laid_waybill_waybillref02_rounds), ("waybill/waybillref02.turns", laid_waybill_waybillref02_turns)] }
def TxEncodesSaid : Prop := txEncodesRow.holds Tryz.pinned (OpenSpec.ofChange txEncodesSpec)

/-- ITS FALSE NEIGHBOUR: 'it returns false'. Refute it at one input. -/
def txEncodesWrong : ChangeSpec := { name := "txEncodes", fn := fun _ => fun
  | [d] => { results := [.lit (.bool false)], args := [d] }
  | _ => none }
def TxEncodesWrongFalsely : Prop := txEncodesRow.holds Tryz.pinned (OpenSpec.ofChange txEncodesWrong)

/-- 'waybilllaw15.TxDrafts': WHATEVER THE INPUT: true; the input reads as it did. -/
def txDraftsSpec : ChangeSpec := { name := "txDrafts", fn := fun _ => fun
  | [d] => { results := [.lit (.bool true)], args := [d] }
  | _ => none }
def txDraftsRow : OpenClaim := { program := "ytnaafeeloicklaagreatdoor", sum := "9cf102211089a56682169ed76008ed7f7ab3be863b9a6a435882b37c4caf7451", func := "waybill/waybilllaw15.TxDrafts", spec := "txDrafts", inPlace := ["math/bits.Sub64"], unfollowed := true, recurses := true, named := ["waybill/waybillplay.markAddress", "waybill/waybillplay.markHash"], apart := false, laid := [("waybill/waybillplay.markHash", laid_waybill_waybillplay_markHash), ("waybill/waybillplay.markAddress", laid_waybill_waybillplay_markAddress)] }
def TxDraftsSaid : Prop := txDraftsRow.holds Tryz.pinned (OpenSpec.ofChange txDraftsSpec)

/-- ITS FALSE NEIGHBOUR: 'it returns false'. Refute it at one input. -/
def txDraftsWrong : ChangeSpec := { name := "txDrafts", fn := fun _ => fun
  | [d] => { results := [.lit (.bool false)], args := [d] }
  | _ => none }
def TxDraftsWrongFalsely : Prop := txDraftsRow.holds Tryz.pinned (OpenSpec.ofChange txDraftsWrong)

/- THE SECOND FORM. 'bulk': how many values and letters a reading holds, each counted each time it is reached (what is shared counts as often as it is met; a slice's spare places count too). A statement '..UptoSaid' is the law's where the arguments, and the package variables that the reading takes, are together of bulk at most 1048576: NARROWER than '..Said'. Prove '..Said' where nothing that the law and all that it calls make is longer than what came in: it says more and counts as full. Else prove '..UptoSaid'. A law counts once. -/
mutual
def uptoBulk {H : Type} : DataW H → Nat
  | .lit (.string bytes) => bytes.length + 1
  | .lit _ => 1
  | .nil => 1
  | .ptr d => uptoBulk d + 1
  | .slice elems spare => uptoBulkAll elems + uptoBulkAll spare + 1
  | .agg parts => uptoBulkAll parts + 1
  | .iface _ d => uptoBulk d + 1
  | .map entries => uptoBulkEntries entries + 1
  | .held _ => 1
def uptoBulkAll {H : Type} : List (DataW H) → Nat
  | [] => 0
  | d :: r => uptoBulk d + uptoBulkAll r
def uptoBulkEntries {H : Type} : List (Lit × DataW H) → Nat
  | [] => 0
  | x :: r => uptoBulkEntry x + uptoBulkEntries r
def uptoBulkEntry {H : Type} : Lit × DataW H → Nat
  | (.string bytes, d) => bytes.length + uptoBulk d + 1
  | (_, d) => uptoBulk d + 1
 end
def uptoSmall : (H : Type) → List (DataW H) → Bool := fun _ ds => decide (uptoBulkAll ds ≤ 1048576)
def OpenSpec.upto (s : _root_.Go.ChangeSpec) : _root_.Go.OpenSpec := { _root_.Go.OpenSpec.ofChange s with cond := some uptoSmall }

/-- 'waybilllaw15.TxRound', WHERE WHAT IT READS IS OF BULK AT MOST 1048576: true; the input reads as it did. -/
def txRoundUptoRow : OpenClaim := { program := "ytnaafeeloicklaagreatdoor", sum := "9cf102211089a56682169ed76008ed7f7ab3be863b9a6a435882b37c4caf7451", func := "waybill/waybilllaw15.TxRound", spec := "txRound", inPlace := ["math/bits.Sub64"], unfollowed := true, recurses := true, named := ["waybill/waybillplay.markAddress", "waybill/waybillplay.markHash", "waybill/keccak.first"], apart := false, laid := [("waybill/keccak.first", laid_waybill_keccak_first), ("waybill/waybillplay.markHash", laid_waybill_waybillplay_markHash), ("waybill/waybillplay.markAddress", laid_waybill_waybillplay_markAddress)], narrowed := true }
def TxRoundUptoSaid : Prop := txRoundUptoRow.holds Tryz.pinned (OpenSpec.upto txRoundSpec)

/-- 'waybilllaw15.TxEncodes', WHERE WHAT IT READS IS OF BULK AT MOST 1048576: true; the input reads as it did. -/
def txEncodesUptoRow : OpenClaim := { program := "ytnaafeeloicklaagreatdoor", sum := "9cf102211089a56682169ed76008ed7f7ab3be863b9a6a435882b37c4caf7451", func := "waybill/waybilllaw15.TxEncodes", spec := "txEncodes", inPlace := ["math/bits.Sub64"], unfollowed := true, recurses := true, named := ["waybill/waybillplay.markAddress", "waybill/waybillplay.markHash", "waybill/keccak.first", "waybill/waybillref02.rounds", "waybill/waybillref02.turns"], apart := false, laid := [("waybill/keccak.first", laid_waybill_keccak_first), ("waybill/waybillplay.markHash", laid_waybill_waybillplay_markHash), ("waybill/waybillplay.markAddress", laid_waybill_waybillplay_markAddress), ("waybill/waybillref02.rounds", laid_waybill_waybillref02_rounds), ("waybill/waybillref02.turns", laid_waybill_waybillref02_turns)], narrowed := true }
def TxEncodesUptoSaid : Prop := txEncodesUptoRow.holds Tryz.pinned (OpenSpec.upto txEncodesSpec)

/-- 'waybilllaw15.TxDrafts', WHERE WHAT IT READS IS OF BULK AT MOST 1048576: true; the input reads as it did. -/
def txDraftsUptoRow : OpenClaim := { program := "ytnaafeeloicklaagreatdoor", sum := "9cf102211089a56682169ed76008ed7f7ab3be863b9a6a435882b37c4caf7451", func := "waybill/waybilllaw15.TxDrafts", spec := "txDrafts", inPlace := ["math/bits.Sub64"], unfollowed := true, recurses := true, named := ["waybill/waybillplay.markAddress", "waybill/waybillplay.markHash"], apart := false, laid := [("waybill/waybillplay.markHash", laid_waybill_waybillplay_markHash), ("waybill/waybillplay.markAddress", laid_waybill_waybillplay_markAddress)], narrowed := true }
def TxDraftsUptoSaid : Prop := txDraftsUptoRow.holds Tryz.pinned (OpenSpec.upto txDraftsSpec)

end Rows
end Go.Proofs.YtnaafeeloicklaaGreatDoor
