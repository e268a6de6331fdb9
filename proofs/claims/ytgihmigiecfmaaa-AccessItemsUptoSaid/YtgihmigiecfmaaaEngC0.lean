/-
  What is known of a type.
-/
import Derived.Test.YtgihmigiecfmaaaEngB2
namespace Go.Eng
open Go Go.RowKit

inductive TD where
  | bad
  | int (k : IntKind)
  | bool
  | str
  | slice (e : TypeId)
  | arr (n : Nat) (e : TypeId)
  | struct (fs : List (Nat × TypeId))
  | ptr (e : TypeId)
  | other

/-- What is known of a type: its kind, its cells, its bytes, its zero value's row. -/
structure TI where
  d : TD
  size : Nat
  bytes : Nat
  zero : List PS

def TD.agg : TD → Bool
  | .arr _ _ | .struct _ => true
  | _ => false

def TD.fits : TD → TypeDesc → Prop
  | .int k, .int k' => k = k'
  | .bool, .bool => True
  | .str, .string => True
  | .slice e, .slice e' => e = e'
  | .arr n e, .array n' e' => n = n' ∧ e = e'
  | .struct fs, .struct F => fs = F.toList.map fun f => (f.offset, f.type)
  | .ptr e, .pointer e' => e = e'
  | .other, d => match d with | .struct _ | .array _ _ => False | _ => True
  | _, _ => False

/-- The zero row's values: plain ones, nil slices ('.sl [] []'). -/
def zvals : List PS → Option (List Value)
  | [] => some []
  | .c (.v x) :: l => if x.oneCell' then (zvals l).map (x :: ·) else none
  | .c (.sl [] []) :: l => (zvals l).map (.slice none 0 0 :: ·)
  | .r n ws :: l => if ws.length = n ∧ ws.all (·.oneCell') then (zvals l).map (ws ++ ·) else none
  | _ => none

structure TIok (P : Program) (t : TypeId) (i : TI) : Prop where
  desc : ∃ d, P.underlying t = some d ∧ i.d.fits d
  info : ∃ ti z, P.info? t = some ti ∧ ti.size = i.size ∧ ti.bytes = i.bytes ∧ ti.zero = some z ∧ zvals i.zero = some z.cells.toList ∧ z.cells.size = i.size

end Go.Eng
