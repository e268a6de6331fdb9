/-
  The access list as plain data: an entry is an address, its keys and what stands in the room behind them; small facts of numbers and bytes. No condition.
-/
import Derived.Test.YtejelaaocjfjbaaEngP
namespace Go.Eng
open Go Go.Proofs

def u8s (bs : List Int) : List Value := bs.map (.int .u8)
def key (w : List Int) : List PS := [.r 32 (u8s w)]
theorem ints_u8s (bs : List Int) : ints .u8 (u8s bs) := by
  intro w hw
  simp only [u8s, List.mem_map] at hw
  obtain ⟨n, _, rfl⟩ := hw
  exact ⟨n, rfl⟩
theorem eqVals_u8s : ∀ (a b : List Int), eqVals (u8s a) (u8s b) = (a == b)
  | [], [] => rfl
  | [], _ :: _ => rfl
  | _ :: _, [] => rfl
  | x :: a, y :: b => by
    have := eqVals_u8s a b
    simp only [u8s, List.map_cons, eqVals, intEq, beq_self_eq_true, Bool.true_and] at this ⊢
    rw [this]; rfl
theorem wrap_eq (n : Int) : IntKind.i64.wrap n = (n + 9223372036854775808) % 18446744073709551616 - 9223372036854775808 := by
  have e : IntKind.i64.wrap n = if n % 18446744073709551616 ≥ 9223372036854775808 then n % 18446744073709551616 - 18446744073709551616 else n % 18446744073709551616 := by
    simp [IntKind.wrap, IntKind.bits, IntKind.signed]
  rw [e]; split <;> omega
theorem wrap_add (a b : Int) : IntKind.i64.wrap (IntKind.i64.wrap a + b) = IntKind.i64.wrap (a + b) := by
  simp only [wrap_eq]; omega
theorem wrap_small {n : Int} (h : -9223372036854775808 ≤ n ∧ n ≤ 9223372036854775807) : IntKind.i64.wrap n = n := by
  simp only [wrap_eq]; omega


/-- One entry of an access list: address, keys, what stands behind the keys. -/
structure Ent where
  a : List Int
  ks : List (List Int)
  sp : List (List PS)
def Ent.row (e : Ent) : List PS := [.r 20 (u8s e.a), .c (.sl (e.ks.map key) e.sp)]
def Ent.core (e : Ent) : List Int × List (List Int) := (e.a, e.ks)

theorem rlen_key (w : List Int) : rlen (key w) = 32 := rfl
theorem rlen_row (e : Ent) : rlen e.row = 21 := rfl

end Go.Eng
