/-
  NARROWER THAN 'FOR EVERY INPUT', by the rows' own cells (each row's printed sentence says how): AccessParses: loops · AccessOne: loops.
  DERIVED. THE GIVEN ROWS OF THIS SEAT. 6 by the template 'for every input the law returns true; each argument reads behind the call as it read before'; 0 by the template 'total and deterministic' (their statements: YtaenopgnhncgiaaTotals.lean).
  GIVEN WITH THE SEED: the statements are not yours to turn. If you find one false, say at which input.
  Laid BY PROGRAM, IN A SANDBOX (cutbox-rows.mjs): the forced cells as the released guide's own fill.sh prints them over the translation 9a13fc6b0822b71e… (all of the seat's roots in one cut). By AI agents, Wed Nov 11 2026. No macro, syntax, notation, axiom, sorry.
-/
import Derived.Test.YtaenopgnhncgiaaChecked
import GoSem.Claim
import GoSem.ClaimJoined
import GoSem.ClaimMapViews
import Derived.JoinedTies
import Derived.KernelRfl
namespace Go.Proofs.Ytaenopgnhncgiaa
/- THE CELL 'sum', in the pinned program and in every row, IS THE sha256 OF THE DUMP (.gsa) THAT YtaenopgnhncgiaaProg.lean LOADS. Nothing in Lean hashes anything: it is a label: what it is worth is what the hold of that sum in a sandbox is worth. -/
noncomputable def Try.pinned : Pinned := { name := "ytaenopgnhncgiaa", sum := "9a13fc6b0822b71e2b4fd2f8d9bd9892494bb501390e2ef0039c5a48ef24e091", checked := Try.checked }
namespace Rows
def none {H : Type} : Left H := { results := [], args := [] }

/-- 'waybilllaw15.TxChains': WHATEVER THE INPUT: true; the input reads as it did. -/
def txChainsSpec : ChangeSpec := { name := "txChains", fn := fun _ => fun
  | [d] => { results := [.lit (.bool true)], args := [d] }
  | _ => none }
def txChainsRow : OpenClaim := { program := "ytaenopgnhncgiaa", sum := "9a13fc6b0822b71e2b4fd2f8d9bd9892494bb501390e2ef0039c5a48ef24e091", func := "waybill/waybilllaw15.TxChains", spec := "txChains", inPlace := ["math/bits.Sub64"], recurses := true, apart := false }
def TxChainsSaid : Prop := txChainsRow.holds Try.pinned (OpenSpec.ofChange txChainsSpec)

/-- ITS FALSE NEIGHBOUR: 'it returns false'. Refute it at one input. -/
def txChainsWrong : ChangeSpec := { name := "txChains", fn := fun _ => fun
  | [d] => { results := [.lit (.bool false)], args := [d] }
  | _ => none }
def TxChainsWrongFalsely : Prop := txChainsRow.holds Try.pinned (OpenSpec.ofChange txChainsWrong)

/-- 'waybilllaw14.AccessItems': WHATEVER THE INPUT: true; the input reads as it did. -/
def accessItemsSpec : ChangeSpec := { name := "accessItems", fn := fun _ => fun
  | [d] => { results := [.lit (.bool true)], args := [d] }
  | _ => none }
def accessItemsRow : OpenClaim := { program := "ytaenopgnhncgiaa", sum := "9a13fc6b0822b71e2b4fd2f8d9bd9892494bb501390e2ef0039c5a48ef24e091", func := "waybill/waybilllaw14.AccessItems", spec := "accessItems", recurses := true, apart := false }
def AccessItemsSaid : Prop := accessItemsRow.holds Try.pinned (OpenSpec.ofChange accessItemsSpec)

/-- ITS FALSE NEIGHBOUR: 'it returns false'. Refute it at one input. -/
def accessItemsWrong : ChangeSpec := { name := "accessItems", fn := fun _ => fun
  | [d] => { results := [.lit (.bool false)], args := [d] }
  | _ => none }
def AccessItemsWrongFalsely : Prop := accessItemsRow.holds Try.pinned (OpenSpec.ofChange accessItemsWrong)

/-- 'waybilllaw14.AccessAuths': WHATEVER THE INPUT: true; the input reads as it did. -/
def accessAuthsSpec : ChangeSpec := { name := "accessAuths", fn := fun _ => fun
  | [d] => { results := [.lit (.bool true)], args := [d] }
  | _ => none }
def accessAuthsRow : OpenClaim := { program := "ytaenopgnhncgiaa", sum := "9a13fc6b0822b71e2b4fd2f8d9bd9892494bb501390e2ef0039c5a48ef24e091", func := "waybill/waybilllaw14.AccessAuths", spec := "accessAuths", recurses := true, apart := false }
def AccessAuthsSaid : Prop := accessAuthsRow.holds Try.pinned (OpenSpec.ofChange accessAuthsSpec)

/-- ITS FALSE NEIGHBOUR: 'it returns false'. Refute it at one input. -/
def accessAuthsWrong : ChangeSpec := { name := "accessAuths", fn := fun _ => fun
  | [d] => { results := [.lit (.bool false)], args := [d] }
  | _ => none }
def AccessAuthsWrongFalsely : Prop := accessAuthsRow.holds Try.pinned (OpenSpec.ofChange accessAuthsWrong)

/-- 'waybilllaw14.AccessParses': WHATEVER THE INPUT: true; the input reads as it did. -/
def accessParsesSpec : ChangeSpec := { name := "accessParses", fn := fun _ => fun
  | [d] => { results := [.lit (.bool true)], args := [d] }
  | _ => none }
def accessParsesRow : OpenClaim := { program := "ytaenopgnhncgiaa", sum := "9a13fc6b0822b71e2b4fd2f8d9bd9892494bb501390e2ef0039c5a48ef24e091", func := "waybill/waybilllaw14.AccessParses", spec := "accessParses", unfollowed := true, recurses := true, loops := true, apart := false }
def AccessParsesSaid : Prop := accessParsesRow.holds Try.pinned (OpenSpec.ofChange accessParsesSpec)

/-- ITS FALSE NEIGHBOUR: 'it returns false'. Refute it at one input. -/
def accessParsesWrong : ChangeSpec := { name := "accessParses", fn := fun _ => fun
  | [d] => { results := [.lit (.bool false)], args := [d] }
  | _ => none }
def AccessParsesWrongFalsely : Prop := accessParsesRow.holds Try.pinned (OpenSpec.ofChange accessParsesWrong)

/-- 'waybilllaw14.AccessBack': WHATEVER THE INPUT: true; the input reads as it did. -/
def accessBackSpec : ChangeSpec := { name := "accessBack", fn := fun _ => fun
  | [d1, d2] => { results := [.lit (.bool true)], args := [d1, d2] }
  | _ => none }
def accessBackRow : OpenClaim := { program := "ytaenopgnhncgiaa", sum := "9a13fc6b0822b71e2b4fd2f8d9bd9892494bb501390e2ef0039c5a48ef24e091", func := "waybill/waybilllaw14.AccessBack", spec := "accessBack", unfollowed := true, recurses := true, apart := false }
def AccessBackSaid : Prop := accessBackRow.holds Try.pinned (OpenSpec.ofChange accessBackSpec)

/-- ITS FALSE NEIGHBOUR: 'it returns false'. Refute it at one input. -/
def accessBackWrong : ChangeSpec := { name := "accessBack", fn := fun _ => fun
  | [d1, d2] => { results := [.lit (.bool false)], args := [d1, d2] }
  | _ => none }
def AccessBackWrongFalsely : Prop := accessBackRow.holds Try.pinned (OpenSpec.ofChange accessBackWrong)

/-- 'waybilllaw14.AccessOne': WHATEVER THE INPUT: true; the input reads as it did. -/
def accessOneSpec : ChangeSpec := { name := "accessOne", fn := fun _ => fun
  | [d] => { results := [.lit (.bool true)], args := [d] }
  | _ => none }
def accessOneRow : OpenClaim := { program := "ytaenopgnhncgiaa", sum := "9a13fc6b0822b71e2b4fd2f8d9bd9892494bb501390e2ef0039c5a48ef24e091", func := "waybill/waybilllaw14.AccessOne", spec := "accessOne", unfollowed := true, recurses := true, loops := true, apart := false }
def AccessOneSaid : Prop := accessOneRow.holds Try.pinned (OpenSpec.ofChange accessOneSpec)

/-- ITS FALSE NEIGHBOUR: 'it returns false'. Refute it at one input. -/
def accessOneWrong : ChangeSpec := { name := "accessOne", fn := fun _ => fun
  | [d] => { results := [.lit (.bool false)], args := [d] }
  | _ => none }
def AccessOneWrongFalsely : Prop := accessOneRow.holds Try.pinned (OpenSpec.ofChange accessOneWrong)

/- THE SECOND FORM. 'bulk': how many values and letters a reading holds, each counted each time it is reached (what is shared counts as often as it is met; a slice's spare places count too). A statement '..UptoSaid' is the law's where the arguments, and the package variables that the reading takes, are together of bulk at most 1048576: NARROWER than '..Said'. Prove '..Said' where nothing that the law and all that it calls make is longer than what came in: it says more and counts as full. Else prove '..UptoSaid'. A law counts once. -/
mutual
def uptoBulk {H : Type} : DataW H → Nat
  | .lit (.string bytes) => bytes.length + 1
  | .lit _ => 1
  | .nil => 1
  | .ptr d => uptoBulk d + 1
  | .slice elems spare => uptoBulkAll elems + uptoBulkAll spare + 1
  | .agg parts => uptoBulkAll parts + 1
  | .iface _ d => uptoBulk d + 1
  | .map entries => uptoBulkEntries entries + 1
  | .held _ => 1
def uptoBulkAll {H : Type} : List (DataW H) → Nat
  | [] => 0
  | d :: r => uptoBulk d + uptoBulkAll r
def uptoBulkEntries {H : Type} : List (Lit × DataW H) → Nat
  | [] => 0
  | x :: r => uptoBulkEntry x + uptoBulkEntries r
def uptoBulkEntry {H : Type} : Lit × DataW H → Nat
  | (.string bytes, d) => bytes.length + uptoBulk d + 1
  | (_, d) => uptoBulk d + 1
 end
def uptoSmall : (H : Type) → List (DataW H) → Bool := fun _ ds => decide (uptoBulkAll ds ≤ 1048576)
def OpenSpec.upto (s : _root_.Go.ChangeSpec) : _root_.Go.OpenSpec := { _root_.Go.OpenSpec.ofChange s with cond := some uptoSmall }

/-- 'waybilllaw15.TxChains', WHERE WHAT IT READS IS OF BULK AT MOST 1048576: true; the input reads as it did. -/
def txChainsUptoRow : OpenClaim := { program := "ytaenopgnhncgiaa", sum := "9a13fc6b0822b71e2b4fd2f8d9bd9892494bb501390e2ef0039c5a48ef24e091", func := "waybill/waybilllaw15.TxChains", spec := "txChains", inPlace := ["math/bits.Sub64"], recurses := true, apart := false, narrowed := true }
def TxChainsUptoSaid : Prop := txChainsUptoRow.holds Try.pinned (OpenSpec.upto txChainsSpec)

/-- 'waybilllaw14.AccessItems', WHERE WHAT IT READS IS OF BULK AT MOST 1048576: true; the input reads as it did. -/
def accessItemsUptoRow : OpenClaim := { program := "ytaenopgnhncgiaa", sum := "9a13fc6b0822b71e2b4fd2f8d9bd9892494bb501390e2ef0039c5a48ef24e091", func := "waybill/waybilllaw14.AccessItems", spec := "accessItems", recurses := true, apart := false, narrowed := true }
def AccessItemsUptoSaid : Prop := accessItemsUptoRow.holds Try.pinned (OpenSpec.upto accessItemsSpec)

/-- 'waybilllaw14.AccessAuths', WHERE WHAT IT READS IS OF BULK AT MOST 1048576: true; the input reads as it did. -/
def accessAuthsUptoRow : OpenClaim := { program := "ytaenopgnhncgiaa", sum := "9a13fc6b0822b71e2b4fd2f8d9bd9892494bb501390e2ef0039c5a48ef24e091", func := "waybill/waybilllaw14.AccessAuths", spec := "accessAuths", recurses := true, apart := false, narrowed := true }
def AccessAuthsUptoSaid : Prop := accessAuthsUptoRow.holds Try.pinned (OpenSpec.upto accessAuthsSpec)

/-- 'waybilllaw14.AccessParses', WHERE WHAT IT READS IS OF BULK AT MOST 1048576: true; the input reads as it did. -/
def accessParsesUptoRow : OpenClaim := { program := "ytaenopgnhncgiaa", sum := "9a13fc6b0822b71e2b4fd2f8d9bd9892494bb501390e2ef0039c5a48ef24e091", func := "waybill/waybilllaw14.AccessParses", spec := "accessParses", unfollowed := true, recurses := true, loops := true, apart := false, narrowed := true }
def AccessParsesUptoSaid : Prop := accessParsesUptoRow.holds Try.pinned (OpenSpec.upto accessParsesSpec)

/-- 'waybilllaw14.AccessBack', WHERE WHAT IT READS IS OF BULK AT MOST 1048576: true; the input reads as it did. -/
def accessBackUptoRow : OpenClaim := { program := "ytaenopgnhncgiaa", sum := "9a13fc6b0822b71e2b4fd2f8d9bd9892494bb501390e2ef0039c5a48ef24e091", func := "waybill/waybilllaw14.AccessBack", spec := "accessBack", unfollowed := true, recurses := true, apart := false, narrowed := true }
def AccessBackUptoSaid : Prop := accessBackUptoRow.holds Try.pinned (OpenSpec.upto accessBackSpec)

/-- 'waybilllaw14.AccessOne', WHERE WHAT IT READS IS OF BULK AT MOST 1048576: true; the input reads as it did. -/
def accessOneUptoRow : OpenClaim := { program := "ytaenopgnhncgiaa", sum := "9a13fc6b0822b71e2b4fd2f8d9bd9892494bb501390e2ef0039c5a48ef24e091", func := "waybill/waybilllaw14.AccessOne", spec := "accessOne", unfollowed := true, recurses := true, loops := true, apart := false, narrowed := true }
def AccessOneUptoSaid : Prop := accessOneUptoRow.holds Try.pinned (OpenSpec.upto accessOneSpec)

end Rows
end Go.Proofs.Ytaenopgnhncgiaa
