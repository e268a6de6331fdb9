/-
  Small facts of numbers: what the evaluator's reckoning is on naturals. Conditions: the ranges of the kinds.
-/
import Derived.Test.YtaenopgnhncgiaaU7
namespace Go.Eng
open Go Go.Proofs

theorem wrapU {n : Int} : IntKind.u64.wrap n = n % 18446744073709551616 := by
  simp [IntKind.wrap, IntKind.bits, IntKind.signed]
theorem wrapB {n : Int} : IntKind.u8.wrap n = n % 256 := by
  simp [IntKind.wrap, IntKind.bits, IntKind.signed]
theorem bv_u64 {n : Nat} (h : n < 18446744073709551616) : (BitVec.ofInt 64 (n : Int)).toNat = n := by
  rw [BitVec.toNat_ofInt]; omega
theorem bv_u8 {n : Nat} (h : n < 256) : (BitVec.ofInt 8 (n : Int)).toNat = n := by
  rw [BitVec.toNat_ofInt]; omega
theorem ib_or64 {a b : Nat} (ha : a < 18446744073709551616) (hb : b < 18446744073709551616) : intB .or .u64 (a : Int) (b : Int) = ((a ||| b : Nat) : Int) := by
  show IntKind.u64.wrap ((BitVec.ofInt 64 (a : Int) ||| BitVec.ofInt 64 (b : Int)).toNat : Int) = _
  rw [wrapU, BitVec.toNat_or, bv_u64 ha, bv_u64 hb]
  have := Nat.or_lt_two_pow (n := 64) ha hb
  omega
theorem ib_and64 {a b : Nat} (ha : a < 18446744073709551616) (hb : b < 18446744073709551616) : intB .and .u64 (a : Int) (b : Int) = ((a &&& b : Nat) : Int) := by
  show IntKind.u64.wrap ((BitVec.ofInt 64 (a : Int) &&& BitVec.ofInt 64 (b : Int)).toNat : Int) = _
  rw [wrapU, BitVec.toNat_and, bv_u64 ha, bv_u64 hb]
  have := Nat.and_lt_two_pow (n := 64) a hb
  omega
theorem ib_xor64 {a b : Nat} (ha : a < 18446744073709551616) (hb : b < 18446744073709551616) : intB .xor .u64 (a : Int) (b : Int) = ((a ^^^ b : Nat) : Int) := by
  show IntKind.u64.wrap ((BitVec.ofInt 64 (a : Int) ^^^ BitVec.ofInt 64 (b : Int)).toNat : Int) = _
  rw [wrapU, BitVec.toNat_xor, bv_u64 ha, bv_u64 hb]
  have := Nat.xor_lt_two_pow (n := 64) ha hb
  omega
theorem ib_shr64 {k : IntKind} {a s : Nat} (hs : s ≤ k.bits) : intB .shr k (a : Int) (s : Int) = ((a / 2 ^ s : Nat) : Int) := by
  simp only [intB, Int.toNat_natCast]
  rw [show min s k.bits = s from Nat.min_eq_left hs]
  rw [Int.fdiv_eq_ediv_of_nonneg _ (by exact Int.pow_nonneg (by omega))]
  simp
theorem ib_shl64 {a s : Nat} (hs : s ≤ 64) : intB .shl .u64 (a : Int) (s : Int) = ((a * 2 ^ s % 18446744073709551616 : Nat) : Int) := by
  simp only [intB, Int.toNat_natCast, wrapU]
  rw [show min s IntKind.u64.bits = s from Nat.min_eq_left hs]
  simp
/-- Two bit fields that do not meet, laid into one word. -/
theorem or_add {a b s : Nat} (ha : a < 2 ^ s) : a ||| (b * 2 ^ s) = a + b * 2 ^ s := by
  have := Nat.shiftLeft_add_eq_or_of_lt ha b
  rw [Nat.shiftLeft_eq] at this
  rw [Nat.or_comm, ← this, Nat.add_comm]

end Go.Eng
