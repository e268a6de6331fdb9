/-
  Numbers by digits of 32 bits: facts. No condition.
-/
import Derived.Test.YtaenopgnhncgiaaU4
namespace Go.Eng
open Go Go.Proofs
set_option maxRecDepth 100000

def n64s (l : List Nat) : List Value := l.map fun n : Nat => .int .u64 (n : Int)
/-- What digits of 32 bits are worth, the lowest first. -/
def val32 : List Nat → Nat
  | [] => 0
  | x :: l => x + 4294967296 * val32 l
def digs (n : Nat) : List Nat := [n % 4294967296, n / 4294967296 % 4294967296, n / 18446744073709551616 % 4294967296, n / 79228162514264337593543950336 % 4294967296, n / 340282366920938463463374607431768211456 % 4294967296, n / 1461501637330902918203684832716283019655932542976 % 4294967296, n / 6277101735386680763835789423207666416102355444464034512896 % 4294967296, n / 26959946667150639794667015087019630673637144422540572481103610249216 % 4294967296]

theorem d8_digs (n : Nat) : d8 n = n64s (digs n) := rfl
theorem digs_len (n : Nat) : (digs n).length = 8 := rfl
theorem digs_lt (n : Nat) : ∀ x ∈ digs n, x < 4294967296 := by
  intro x hx
  simp only [digs, List.mem_cons, List.not_mem_nil, or_false] at hx
  rcases hx with rfl | rfl | rfl | rfl | rfl | rfl | rfl | rfl <;> omega
theorem val_digs {n : Nat} (h : n < M256) : val32 (digs n) = n := by
  simp only [digs, val32]
  unfold M256 at h
  omega
theorem val_snoc (l : List Nat) (x : Nat) : val32 (l ++ [x]) = val32 l + 4294967296 ^ l.length * x := by
  induction l with
  | nil => simp [val32]
  | cons y l ih => simp only [List.cons_append, val32, ih, List.length_cons, Nat.pow_succ, Nat.mul_add]; rw [Nat.mul_comm (4294967296 ^ l.length) 4294967296, Nat.mul_assoc]; omega

theorem val_step {A B C E b x y r b' : Nat} (h : A + B = C + E * b) (hr : r + y + b = x + 4294967296 * b') : A + E * r + (B + E * y) = C + E * x + E * 4294967296 * b' := by
  have h1 : E * r + E * y + E * b = E * x + E * 4294967296 * b' := by
    rw [← Nat.mul_add, ← Nat.mul_add, hr, Nat.mul_add, Nat.mul_assoc]
  omega
end Go.Eng
