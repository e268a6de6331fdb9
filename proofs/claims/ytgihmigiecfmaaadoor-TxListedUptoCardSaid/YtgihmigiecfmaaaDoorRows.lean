/-
  NARROWER THAN 'FOR EVERY INPUT', by the rows' own cells (each row's printed sentence says how): TxOwn: laid · TxListed: laid.
  DERIVED. THE GIVEN ROWS OF THIS SEAT. 2 by the template 'for every input the law returns true; each argument reads behind the call as it read before'; 0 by the template 'total and deterministic' (their statements: YtgihmigiecfmaaaDoorTotals.lean).
  GIVEN WITH THE SEED: the statements are not yours to turn. If you find one false, say at which input.
  Laid BY PROGRAM, IN A SANDBOX (cutbox-rows.mjs): the forced cells as the released guide's own fill.sh prints them over the translation 9c7489ac31c2c8f4… (all of the seat's roots in one cut). By AI agents, Wed Nov 11 2026. No macro, syntax, notation, axiom, sorry.
-/
import Derived.Test.YtgihmigiecfmaaaDoorChecked
import GoSem.Claim
import GoSem.ClaimJoined
import GoSem.ClaimMapViews
import Derived.JoinedTies
import Derived.KernelRfl
namespace Go.Proofs.YtgihmigiecfmaaaDoor
/- THE CELL 'sum', in the pinned program and in every row, IS THE sha256 OF THE DUMP (.gsa) THAT YtgihmigiecfmaaaDoorProg.lean LOADS. Nothing in Lean hashes anything: it is a label: what it is worth is what the hold of that sum in a sandbox is worth. -/
noncomputable def Tryd.pinned : Pinned := { name := "ytgihmigiecfmaaadoor", sum := "9c7489ac31c2c8f40388a033ba775ad97c9c2ae287629b79758250e0a92ffe62", checked := Tryd.checked }
namespace Rows
def none {H : Type} : Left H := { results := [], args := [] }

/- WHAT THE LISTED PACKAGE-LEVEL VARIABLES READ AS WHEN THE CALL BEGINS. Each datum BY PROGRAM (the guide's laid-datum.mjs) off the statement by which the dump's own 'gosem.cut.vars' lays the variable. In a bare row this is a premise. The card (YtgihmigiecfmaaaDoorCards.lean) ties it to the program's text. -/
def laid_waybill_waybillplay_markHash {H : Type} : DataW H := .agg [.lit (.int .u8 165), .lit (.int .u8 90), .lit (.int .u8 0), .lit (.int .u8 0), .lit (.int .u8 0), .lit (.int .u8 0), .lit (.int .u8 0), .lit (.int .u8 0), .lit (.int .u8 0), .lit (.int .u8 0), .lit (.int .u8 0), .lit (.int .u8 0), .lit (.int .u8 0), .lit (.int .u8 0), .lit (.int .u8 0), .lit (.int .u8 0), .lit (.int .u8 0), .lit (.int .u8 0), .lit (.int .u8 0), .lit (.int .u8 0), .lit (.int .u8 0), .lit (.int .u8 0), .lit (.int .u8 0), .lit (.int .u8 0), .lit (.int .u8 0), .lit (.int .u8 0), .lit (.int .u8 0), .lit (.int .u8 0), .lit (.int .u8 0), .lit (.int .u8 0), .lit (.int .u8 0), .lit (.int .u8 0)]
def laid_waybill_waybillplay_markAddress {H : Type} : DataW H := .agg [.lit (.int .u8 165), .lit (.int .u8 90), .lit (.int .u8 0), .lit (.int .u8 0), .lit (.int .u8 0), .lit (.int .u8 0), .lit (.int .u8 0), .lit (.int .u8 0), .lit (.int .u8 0), .lit (.int .u8 0), .lit (.int .u8 0), .lit (.int .u8 0), .lit (.int .u8 0), .lit (.int .u8 0), .lit (.int .u8 0), .lit (.int .u8 0), .lit (.int .u8 0), .lit (.int .u8 0), .lit (.int .u8 0), .lit (.int .u8 0)]

/-- 'waybilllaw15.TxOwn': WHATEVER THE INPUT: true; the input reads as it did. -/
def txOwnSpec : ChangeSpec := { name := "txOwn", fn := fun _ => fun
  | [d] => { results := [.lit (.bool true)], args := [d] }
  | _ => none }
def txOwnRow : OpenClaim := { program := "ytgihmigiecfmaaadoor", sum := "9c7489ac31c2c8f40388a033ba775ad97c9c2ae287629b79758250e0a92ffe62", func := "waybill/waybilllaw15.TxOwn", spec := "txOwn", inPlace := ["math/bits.Sub64"], unfollowed := true, recurses := true, named := ["waybill/waybillplay.markAddress", "waybill/waybillplay.markHash"], apart := false, laid := [("waybill/waybillplay.markHash", laid_waybill_waybillplay_markHash), ("waybill/waybillplay.markAddress", laid_waybill_waybillplay_markAddress)] }
def TxOwnSaid : Prop := txOwnRow.holds Tryd.pinned (OpenSpec.ofChange txOwnSpec)

/-- ITS FALSE NEIGHBOUR: 'it returns false'. Refute it at one input. -/
def txOwnWrong : ChangeSpec := { name := "txOwn", fn := fun _ => fun
  | [d] => { results := [.lit (.bool false)], args := [d] }
  | _ => none }
def TxOwnWrongFalsely : Prop := txOwnRow.holds Tryd.pinned (OpenSpec.ofChange txOwnWrong)

/-- 'waybilllaw15.TxListed': WHATEVER THE INPUT: true; the input reads as it did. -/
def txListedSpec : ChangeSpec := { name := "txListed", fn := fun _ => fun
  | [d] => { results := [.lit (.bool true)], args := [d] }
  | _ => none }
def txListedRow : OpenClaim := { program := "ytgihmigiecfmaaadoor", sum := "9c7489ac31c2c8f40388a033ba775ad97c9c2ae287629b79758250e0a92ffe62", func := "waybill/waybilllaw15.TxListed", spec := "txListed", inPlace := ["math/bits.Sub64"], unfollowed := true, recurses := true, named := ["waybill/waybillplay.markAddress", "waybill/waybillplay.markHash"], apart := false, laid := [("waybill/waybillplay.markHash", laid_waybill_waybillplay_markHash), ("waybill/waybillplay.markAddress", laid_waybill_waybillplay_markAddress)] }
def TxListedSaid : Prop := txListedRow.holds Tryd.pinned (OpenSpec.ofChange txListedSpec)

/-- ITS FALSE NEIGHBOUR: 'it returns false'. Refute it at one input. -/
def txListedWrong : ChangeSpec := { name := "txListed", fn := fun _ => fun
  | [d] => { results := [.lit (.bool false)], args := [d] }
  | _ => none }
def TxListedWrongFalsely : Prop := txListedRow.holds Tryd.pinned (OpenSpec.ofChange txListedWrong)

/- THE SECOND FORM. 'bulk': how many values and letters a reading holds, each counted each time it is reached (what is shared counts as often as it is met; a slice's spare places count too). A statement '..UptoSaid' is the law's where the arguments, and the package variables that the reading takes, are together of bulk at most 1048576: NARROWER than '..Said'. Prove '..Said' where nothing that the law and all that it calls make is longer than what came in: it says more and counts as full. Else prove '..UptoSaid'. A law counts once. -/
mutual
def uptoBulk {H : Type} : DataW H → Nat
  | .lit (.string bytes) => bytes.length + 1
  | .lit _ => 1
  | .nil => 1
  | .ptr d => uptoBulk d + 1
  | .slice elems spare => uptoBulkAll elems + uptoBulkAll spare + 1
  | .agg parts => uptoBulkAll parts + 1
  | .iface _ d => uptoBulk d + 1
  | .map entries => uptoBulkEntries entries + 1
  | .held _ => 1
def uptoBulkAll {H : Type} : List (DataW H) → Nat
  | [] => 0
  | d :: r => uptoBulk d + uptoBulkAll r
def uptoBulkEntries {H : Type} : List (Lit × DataW H) → Nat
  | [] => 0
  | x :: r => uptoBulkEntry x + uptoBulkEntries r
def uptoBulkEntry {H : Type} : Lit × DataW H → Nat
  | (.string bytes, d) => bytes.length + uptoBulk d + 1
  | (_, d) => uptoBulk d + 1
 end
def uptoSmall : (H : Type) → List (DataW H) → Bool := fun _ ds => decide (uptoBulkAll ds ≤ 1048576)
def OpenSpec.upto (s : _root_.Go.ChangeSpec) : _root_.Go.OpenSpec := { _root_.Go.OpenSpec.ofChange s with cond := some uptoSmall }

/-- 'waybilllaw15.TxOwn', WHERE WHAT IT READS IS OF BULK AT MOST 1048576: true; the input reads as it did. -/
def txOwnUptoRow : OpenClaim := { program := "ytgihmigiecfmaaadoor", sum := "9c7489ac31c2c8f40388a033ba775ad97c9c2ae287629b79758250e0a92ffe62", func := "waybill/waybilllaw15.TxOwn", spec := "txOwn", inPlace := ["math/bits.Sub64"], unfollowed := true, recurses := true, named := ["waybill/waybillplay.markAddress", "waybill/waybillplay.markHash"], apart := false, laid := [("waybill/waybillplay.markHash", laid_waybill_waybillplay_markHash), ("waybill/waybillplay.markAddress", laid_waybill_waybillplay_markAddress)], narrowed := true }
def TxOwnUptoSaid : Prop := txOwnUptoRow.holds Tryd.pinned (OpenSpec.upto txOwnSpec)

/-- 'waybilllaw15.TxListed', WHERE WHAT IT READS IS OF BULK AT MOST 1048576: true; the input reads as it did. -/
def txListedUptoRow : OpenClaim := { program := "ytgihmigiecfmaaadoor", sum := "9c7489ac31c2c8f40388a033ba775ad97c9c2ae287629b79758250e0a92ffe62", func := "waybill/waybilllaw15.TxListed", spec := "txListed", inPlace := ["math/bits.Sub64"], unfollowed := true, recurses := true, named := ["waybill/waybillplay.markAddress", "waybill/waybillplay.markHash"], apart := false, laid := [("waybill/waybillplay.markHash", laid_waybill_waybillplay_markHash), ("waybill/waybillplay.markAddress", laid_waybill_waybillplay_markAddress)], narrowed := true }
def TxListedUptoSaid : Prop := txListedUptoRow.holds Tryd.pinned (OpenSpec.upto txListedSpec)

end Rows
end Go.Proofs.YtgihmigiecfmaaaDoor
