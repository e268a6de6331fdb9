/-
  NARROWER THAN 'FOR EVERY INPUT', by the rows' own cells (each row's printed sentence says how): BlockNone: laid · PoolNil: laid.
  DERIVED. THE GIVEN ROWS OF THIS SEAT. 2 by the template 'for every input the law returns true; each argument reads behind the call as it read before'; 0 by the template 'total and deterministic' (their statements: YtgplmnkckjkbiaaGreatDoorTotals.lean).
  GIVEN WITH THE SEED: the statements are not yours to turn. If you find one false, say at which input.
  Laid BY PROGRAM, IN A SANDBOX (cutbox-rows.mjs): the forced cells as the released guide's own fill.sh prints them over the translation 4e30aee12760d56b… (all of the seat's roots in one cut). By AI agents, Wed Nov 11 2026. No macro, syntax, notation, axiom, sorry.
-/
import Derived.Test.YtgplmnkckjkbiaaGreatDoorChecked
import GoSem.Claim
import GoSem.ClaimJoined
import GoSem.ClaimMapViews
import Derived.JoinedTies
import Derived.KernelRfl
namespace Go.Proofs.YtgplmnkckjkbiaaGreatDoor
/- THE CELL 'sum', in the pinned program and in every row, IS THE sha256 OF THE DUMP (.gsa) THAT YtgplmnkckjkbiaaGreatDoorProg.lean LOADS. Nothing in Lean hashes anything: it is a label: what it is worth is what the hold of that sum in a sandbox is worth. -/
noncomputable def Tryz.pinned : Pinned := { name := "ytgplmnkckjkbiaagreatdoor", sum := "4e30aee12760d56bc9f093f3ecd06df371f103c810adef97f243c385586e33a2", checked := Tryz.checked }
namespace Rows
def none {H : Type} : Left H := { results := [], args := [] }

/- WHAT THE LISTED PACKAGE-LEVEL VARIABLES READ AS WHEN THE CALL BEGINS. Each datum BY PROGRAM (the guide's laid-datum.mjs) off the statement by which the dump's own 'gosem.cut.vars' lays the variable. In a bare row this is a premise. The card (YtgplmnkckjkbiaaGreatDoorCards.lean) ties it to the program's text. -/
def laid_waybill_keccak_first {H : Type} : DataW H := .agg [.lit (.int .u8 1), .lit (.int .u8 6)]
def laid_waybill_header_fields {H : Type} : DataW H := .agg [.lit (.int .i64 32), .lit (.int .i64 32), .lit (.int .i64 20), .lit (.int .i64 32), .lit (.int .i64 32), .lit (.int .i64 32), .lit (.int .i64 256), .lit (.int .i64 (-1)), .lit (.int .i64 (-2)), .lit (.int .i64 (-2)), .lit (.int .i64 (-2)), .lit (.int .i64 (-2)), .lit (.int .i64 (-3)), .lit (.int .i64 32), .lit (.int .i64 8), .lit (.int .i64 (-1)), .lit (.int .i64 32), .lit (.int .i64 (-2)), .lit (.int .i64 (-2)), .lit (.int .i64 32), .lit (.int .i64 32)]
def laid_waybill_field_moduli {H : Type} : DataW H := .agg [.agg [.agg [.lit (.int .u64 18446744069414583343), .lit (.int .u64 18446744073709551615), .lit (.int .u64 18446744073709551615), .lit (.int .u64 18446744073709551615)], .agg [.lit (.int .u64 4294968273), .lit (.int .u64 0), .lit (.int .u64 0), .lit (.int .u64 0)]], .agg [.agg [.lit (.int .u64 13822214165235122497), .lit (.int .u64 13451932020343611451), .lit (.int .u64 18446744073709551614), .lit (.int .u64 18446744073709551615)], .agg [.lit (.int .u64 4624529908474429119), .lit (.int .u64 4994812053365940164), .lit (.int .u64 1), .lit (.int .u64 0)]]]
def laid_waybill_curve_base {H : Type} : DataW H := .agg [.lit (.int .u64 6481385041966929816), .lit (.int .u64 188021827762530521), .lit (.int .u64 6170039885052185351), .lit (.int .u64 8772561819708210092), .lit (.int .u64 11261198710074299576), .lit (.int .u64 18237243440184513561), .lit (.int .u64 6747795201694173352), .lit (.int .u64 5204712524664259685)]

/-- 'waybilllaw20.BlockNone': WHATEVER THE INPUT: true; the input reads as it did. -/
def blockNoneSpec : ChangeSpec := { name := "blockNone", fn := fun _ => fun
  | [] => { results := [.lit (.bool true)], args := [] }
  | _ => none }
def blockNoneRow : OpenClaim := { program := "ytgplmnkckjkbiaagreatdoor", sum := "4e30aee12760d56bc9f093f3ecd06df371f103c810adef97f243c385586e33a2", func := "waybill/waybilllaw20.BlockNone", spec := "blockNone", inPlace := ["math/bits.Sub64"], unfollowed := true, recurses := true, named := ["waybill/keccak.first", "waybill/header.fields"], plainKeys := false, apart := false, laid := [("waybill/keccak.first", laid_waybill_keccak_first), ("waybill/header.fields", laid_waybill_header_fields)] }
def BlockNoneSaid : Prop := blockNoneRow.holds Tryz.pinned (OpenSpec.ofChange blockNoneSpec)

/-- ITS FALSE NEIGHBOUR: 'it returns false'. Refute it at one input. -/
def blockNoneWrong : ChangeSpec := { name := "blockNone", fn := fun _ => fun
  | [] => { results := [.lit (.bool false)], args := [] }
  | _ => none }
def BlockNoneWrongFalsely : Prop := blockNoneRow.holds Tryz.pinned (OpenSpec.ofChange blockNoneWrong)

/-- 'waybilllaw24.PoolNil': WHATEVER THE INPUT: true; the input reads as it did. -/
def poolNilSpec : ChangeSpec := { name := "poolNil", fn := fun _ => fun
  | [] => { results := [.lit (.bool true)], args := [] }
  | _ => none }
def poolNilRow : OpenClaim := { program := "ytgplmnkckjkbiaagreatdoor", sum := "4e30aee12760d56bc9f093f3ecd06df371f103c810adef97f243c385586e33a2", func := "waybill/waybilllaw24.PoolNil", spec := "poolNil", inPlace := ["math/bits.Sub64", "math/bits.Add64", "internal/bytealg.Compare"], unfollowed := true, recurses := true, named := ["waybill/keccak.first", "waybill/field.moduli", "waybill/curve.base"], plainKeys := false, apart := false, laid := [("waybill/keccak.first", laid_waybill_keccak_first), ("waybill/field.moduli", laid_waybill_field_moduli), ("waybill/curve.base", laid_waybill_curve_base)] }
def PoolNilSaid : Prop := poolNilRow.holds Tryz.pinned (OpenSpec.ofChange poolNilSpec)

/-- ITS FALSE NEIGHBOUR: 'it returns false'. Refute it at one input. -/
def poolNilWrong : ChangeSpec := { name := "poolNil", fn := fun _ => fun
  | [] => { results := [.lit (.bool false)], args := [] }
  | _ => none }
def PoolNilWrongFalsely : Prop := poolNilRow.holds Tryz.pinned (OpenSpec.ofChange poolNilWrong)

/- THE SECOND FORM. 'bulk': how many values and letters a reading holds, each counted each time it is reached (what is shared counts as often as it is met; a slice's spare places count too). A statement '..UptoSaid' is the law's where the arguments, and the package variables that the reading takes, are together of bulk at most 1048576: NARROWER than '..Said'. Prove '..Said' where nothing that the law and all that it calls make is longer than what came in: it says more and counts as full. Else prove '..UptoSaid'. A law counts once. -/
mutual
def uptoBulk {H : Type} : DataW H → Nat
  | .lit (.string bytes) => bytes.length + 1
  | .lit _ => 1
  | .nil => 1
  | .ptr d => uptoBulk d + 1
  | .slice elems spare => uptoBulkAll elems + uptoBulkAll spare + 1
  | .agg parts => uptoBulkAll parts + 1
  | .iface _ d => uptoBulk d + 1
  | .map entries => uptoBulkEntries entries + 1
  | .held _ => 1
def uptoBulkAll {H : Type} : List (DataW H) → Nat
  | [] => 0
  | d :: r => uptoBulk d + uptoBulkAll r
def uptoBulkEntries {H : Type} : List (Lit × DataW H) → Nat
  | [] => 0
  | x :: r => uptoBulkEntry x + uptoBulkEntries r
def uptoBulkEntry {H : Type} : Lit × DataW H → Nat
  | (.string bytes, d) => bytes.length + uptoBulk d + 1
  | (_, d) => uptoBulk d + 1
 end
def uptoSmall : (H : Type) → List (DataW H) → Bool := fun _ ds => decide (uptoBulkAll ds ≤ 1048576)
def OpenSpec.upto (s : _root_.Go.ChangeSpec) : _root_.Go.OpenSpec := { _root_.Go.OpenSpec.ofChange s with cond := some uptoSmall }

/-- 'waybilllaw20.BlockNone', WHERE WHAT IT READS IS OF BULK AT MOST 1048576: true; the input reads as it did. -/
def blockNoneUptoRow : OpenClaim := { program := "ytgplmnkckjkbiaagreatdoor", sum := "4e30aee12760d56bc9f093f3ecd06df371f103c810adef97f243c385586e33a2", func := "waybill/waybilllaw20.BlockNone", spec := "blockNone", inPlace := ["math/bits.Sub64"], unfollowed := true, recurses := true, named := ["waybill/keccak.first", "waybill/header.fields"], plainKeys := false, apart := false, laid := [("waybill/keccak.first", laid_waybill_keccak_first), ("waybill/header.fields", laid_waybill_header_fields)], narrowed := true }
def BlockNoneUptoSaid : Prop := blockNoneUptoRow.holds Tryz.pinned (OpenSpec.upto blockNoneSpec)

/-- 'waybilllaw24.PoolNil', WHERE WHAT IT READS IS OF BULK AT MOST 1048576: true; the input reads as it did. -/
def poolNilUptoRow : OpenClaim := { program := "ytgplmnkckjkbiaagreatdoor", sum := "4e30aee12760d56bc9f093f3ecd06df371f103c810adef97f243c385586e33a2", func := "waybill/waybilllaw24.PoolNil", spec := "poolNil", inPlace := ["math/bits.Sub64", "math/bits.Add64", "internal/bytealg.Compare"], unfollowed := true, recurses := true, named := ["waybill/keccak.first", "waybill/field.moduli", "waybill/curve.base"], plainKeys := false, apart := false, laid := [("waybill/keccak.first", laid_waybill_keccak_first), ("waybill/field.moduli", laid_waybill_field_moduli), ("waybill/curve.base", laid_waybill_curve_base)], narrowed := true }
def PoolNilUptoSaid : Prop := poolNilUptoRow.holds Tryz.pinned (OpenSpec.upto poolNilSpec)

end Rows
end Go.Proofs.YtgplmnkckjkbiaaGreatDoor
