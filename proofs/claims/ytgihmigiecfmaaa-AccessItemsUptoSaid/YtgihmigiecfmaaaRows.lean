/-
  NARROWER THAN 'FOR EVERY INPUT', by the rows' own cells (each row's printed sentence says how): AccessParses: loops.
  DERIVED. THE GIVEN ROWS OF THIS SEAT. 3 by the template 'for every input the law returns true; each argument reads behind the call as it read before'; 0 by the template 'total and deterministic' (their statements: YtgihmigiecfmaaaTotals.lean).
  GIVEN WITH THE SEED: the statements are not yours to turn. If you find one false, say at which input.
  Laid BY PROGRAM, IN A SANDBOX (cutbox-rows.mjs): the forced cells as the released guide's own fill.sh prints them over the translation fa29bd0b87d5f6aa… (all of the seat's roots in one cut). By AI agents, Wed Nov 11 2026. No macro, syntax, notation, axiom, sorry.
-/
import Derived.Test.YtgihmigiecfmaaaChecked
import GoSem.Claim
import GoSem.ClaimJoined
import GoSem.ClaimMapViews
import Derived.JoinedTies
import Derived.KernelRfl
namespace Go.Proofs.Ytgihmigiecfmaaa
/- THE CELL 'sum', in the pinned program and in every row, IS THE sha256 OF THE DUMP (.gsa) THAT YtgihmigiecfmaaaProg.lean LOADS. Nothing in Lean hashes anything: it is a label: what it is worth is what the hold of that sum in a sandbox is worth. -/
noncomputable def Try.pinned : Pinned := { name := "ytgihmigiecfmaaa", sum := "fa29bd0b87d5f6aaec22a70a21f88a4f296bc25b128f5d9168e2140150438e51", checked := Try.checked }
namespace Rows
def none {H : Type} : Left H := { results := [], args := [] }

/-- 'waybilllaw14.AccessItems': WHATEVER THE INPUT: true; the input reads as it did. -/
def accessItemsSpec : ChangeSpec := { name := "accessItems", fn := fun _ => fun
  | [d] => { results := [.lit (.bool true)], args := [d] }
  | _ => none }
def accessItemsRow : OpenClaim := { program := "ytgihmigiecfmaaa", sum := "fa29bd0b87d5f6aaec22a70a21f88a4f296bc25b128f5d9168e2140150438e51", func := "waybill/waybilllaw14.AccessItems", spec := "accessItems", recurses := true, apart := false }
def AccessItemsSaid : Prop := accessItemsRow.holds Try.pinned (OpenSpec.ofChange accessItemsSpec)

/-- ITS FALSE NEIGHBOUR: 'it returns false'. Refute it at one input. -/
def accessItemsWrong : ChangeSpec := { name := "accessItems", fn := fun _ => fun
  | [d] => { results := [.lit (.bool false)], args := [d] }
  | _ => none }
def AccessItemsWrongFalsely : Prop := accessItemsRow.holds Try.pinned (OpenSpec.ofChange accessItemsWrong)

/-- 'waybilllaw14.AccessAuths': WHATEVER THE INPUT: true; the input reads as it did. -/
def accessAuthsSpec : ChangeSpec := { name := "accessAuths", fn := fun _ => fun
  | [d] => { results := [.lit (.bool true)], args := [d] }
  | _ => none }
def accessAuthsRow : OpenClaim := { program := "ytgihmigiecfmaaa", sum := "fa29bd0b87d5f6aaec22a70a21f88a4f296bc25b128f5d9168e2140150438e51", func := "waybill/waybilllaw14.AccessAuths", spec := "accessAuths", recurses := true, apart := false }
def AccessAuthsSaid : Prop := accessAuthsRow.holds Try.pinned (OpenSpec.ofChange accessAuthsSpec)

/-- ITS FALSE NEIGHBOUR: 'it returns false'. Refute it at one input. -/
def accessAuthsWrong : ChangeSpec := { name := "accessAuths", fn := fun _ => fun
  | [d] => { results := [.lit (.bool false)], args := [d] }
  | _ => none }
def AccessAuthsWrongFalsely : Prop := accessAuthsRow.holds Try.pinned (OpenSpec.ofChange accessAuthsWrong)

/-- 'waybilllaw14.AccessParses': WHATEVER THE INPUT: true; the input reads as it did. -/
def accessParsesSpec : ChangeSpec := { name := "accessParses", fn := fun _ => fun
  | [d] => { results := [.lit (.bool true)], args := [d] }
  | _ => none }
def accessParsesRow : OpenClaim := { program := "ytgihmigiecfmaaa", sum := "fa29bd0b87d5f6aaec22a70a21f88a4f296bc25b128f5d9168e2140150438e51", func := "waybill/waybilllaw14.AccessParses", spec := "accessParses", unfollowed := true, recurses := true, loops := true, apart := false }
def AccessParsesSaid : Prop := accessParsesRow.holds Try.pinned (OpenSpec.ofChange accessParsesSpec)

/-- ITS FALSE NEIGHBOUR: 'it returns false'. Refute it at one input. -/
def accessParsesWrong : ChangeSpec := { name := "accessParses", fn := fun _ => fun
  | [d] => { results := [.lit (.bool false)], args := [d] }
  | _ => none }
def AccessParsesWrongFalsely : Prop := accessParsesRow.holds Try.pinned (OpenSpec.ofChange accessParsesWrong)

/- THE SECOND FORM. 'bulk': how many values and letters a reading holds, each counted each time it is reached (what is shared counts as often as it is met; a slice's spare places count too). A statement '..UptoSaid' is the law's where the arguments, and the package variables that the reading takes, are together of bulk at most 1048576: NARROWER than '..Said'. Prove '..Said' where nothing that the law and all that it calls make is longer than what came in: it says more and counts as full. Else prove '..UptoSaid'. A law counts once. -/
mutual
def uptoBulk {H : Type} : DataW H → Nat
  | .lit (.string bytes) => bytes.length + 1
  | .lit _ => 1
  | .nil => 1
  | .ptr d => uptoBulk d + 1
  | .slice elems spare => uptoBulkAll elems + uptoBulkAll spare + 1
  | .agg parts => uptoBulkAll parts + 1
  | .iface _ d => uptoBulk d + 1
  | .map entries => uptoBulkEntries entries + 1
  | .held _ => 1
def uptoBulkAll {H : Type} : List (DataW H) → Nat
  | [] => 0
  | d :: r => uptoBulk d + uptoBulkAll r
def uptoBulkEntries {H : Type} : List (Lit × DataW H) → Nat
  | [] => 0
  | x :: r => uptoBulkEntry x + uptoBulkEntries r
def uptoBulkEntry {H : Type} : Lit × DataW H → Nat
  | (.string bytes, d) => bytes.length + uptoBulk d + 1
  | (_, d) => uptoBulk d + 1
 end
def uptoSmall : (H : Type) → List (DataW H) → Bool := fun _ ds => decide (uptoBulkAll ds ≤ 1048576)
def OpenSpec.upto (s : _root_.Go.ChangeSpec) : _root_.Go.OpenSpec := { _root_.Go.OpenSpec.ofChange s with cond := some uptoSmall }

/-- 'waybilllaw14.AccessItems', WHERE WHAT IT READS IS OF BULK AT MOST 1048576: true; the input reads as it did. -/
def accessItemsUptoRow : OpenClaim := { program := "ytgihmigiecfmaaa", sum := "fa29bd0b87d5f6aaec22a70a21f88a4f296bc25b128f5d9168e2140150438e51", func := "waybill/waybilllaw14.AccessItems", spec := "accessItems", recurses := true, apart := false, narrowed := true }
def AccessItemsUptoSaid : Prop := accessItemsUptoRow.holds Try.pinned (OpenSpec.upto accessItemsSpec)

/-- 'waybilllaw14.AccessAuths', WHERE WHAT IT READS IS OF BULK AT MOST 1048576: true; the input reads as it did. -/
def accessAuthsUptoRow : OpenClaim := { program := "ytgihmigiecfmaaa", sum := "fa29bd0b87d5f6aaec22a70a21f88a4f296bc25b128f5d9168e2140150438e51", func := "waybill/waybilllaw14.AccessAuths", spec := "accessAuths", recurses := true, apart := false, narrowed := true }
def AccessAuthsUptoSaid : Prop := accessAuthsUptoRow.holds Try.pinned (OpenSpec.upto accessAuthsSpec)

/-- 'waybilllaw14.AccessParses', WHERE WHAT IT READS IS OF BULK AT MOST 1048576: true; the input reads as it did. -/
def accessParsesUptoRow : OpenClaim := { program := "ytgihmigiecfmaaa", sum := "fa29bd0b87d5f6aaec22a70a21f88a4f296bc25b128f5d9168e2140150438e51", func := "waybill/waybilllaw14.AccessParses", spec := "accessParses", unfollowed := true, recurses := true, loops := true, apart := false, narrowed := true }
def AccessParsesUptoSaid : Prop := accessParsesUptoRow.holds Try.pinned (OpenSpec.upto accessParsesSpec)

end Rows
end Go.Proofs.Ytgihmigiecfmaaa
