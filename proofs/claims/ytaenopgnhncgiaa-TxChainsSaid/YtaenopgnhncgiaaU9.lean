/-
  The reference's Bit and with: a bit of a number; the number with a bit set. Conditions: the place is an index where it must be.
-/
import Derived.Test.YtaenopgnhncgiaaU8
namespace Go.Eng
open Go Go.Proofs
set_option maxRecDepth 100000

theorem w4_get (n : Nat) {j : Nat} (hj : j < 4) : (w4 n)[j]? = some (.int .u64 ((n / 2 ^ (64 * j) % 18446744073709551616 : Nat) : Int)) := by
  match j, hj with
  | 0, _ => simp [w4]
  | 1, _ => rfl
  | 2, _ => rfl
  | 3, _ => rfl

theorem ints_get (n : Nat) : ∀ w ∈ w4 n, ∃ z : Int, w = .int .u64 z := ints_w4 n

/-- A bit, as a number. -/
def bitN (n : Nat) (i : Int) : Nat := if 0 ≤ i ∧ i ≤ 255 then n / 2 ^ i.toNat % 2 else 0

theorem bit_word (n p : Nat) : n / 2 ^ (64 * (p / 64)) % 18446744073709551616 / 2 ^ (p % 64) % 2 = n / 2 ^ p % 2 := by
  have h : (n / 2 ^ (64 * (p / 64)) % 2 ^ 64).testBit (p % 64) = n.testBit p := by
    rw [Nat.testBit_mod_two_pow, Nat.testBit_div_two_pow, show p % 64 + 64 * (p / 64) = p by omega, decide_eq_true (show p % 64 < 64 by omega), Bool.true_and]
  have e : ∀ m q : Nat, m / 2 ^ q % 2 = (m.testBit q).toNat := fun m q => by
    rw [Nat.testBit_eq_decide_div_mod_eq]
    have : m / 2 ^ q % 2 = 0 ∨ m / 2 ^ q % 2 = 1 := by omega
    rcases this with h | h <;> simp [h]
  rw [e, e, ← h]

theorem refBit_sound : Sound Try.prog 73 fun args k => ∃ (n : Nat) (i : Int), args = [pw n, .s (.v (.int .i64 i))] ∧ -1000 ≤ i ∧ i ≤ 1000 ∧ k [.s (.v (.int .i64 (bitN n i)))] := by
  refine Sound.of_body tt_ok ent_ok Try.func73 rfl ?_
  rintro ar har Γ hΓ args k ⟨n, i, rfl, hlo, hhi, hk⟩
  obtain ⟨x, hx⟩ : ∃ x, x = w4 n := ⟨_, rfl⟩
  obtain ⟨r, hr⟩ : ∃ r : Int, r = bitN n i := ⟨_, rfl⟩
  rw [← hr] at hk
  unfold pw
  rw [← hx]
  cbv
  refine ⟨fun h1 => ?_, fun h1 => ?_⟩
  · have g1 := cNlt har h1
    cbv
    refine ⟨fun h2 => ?_, fun h2 => ?_⟩
    · have g2 := cGt har h2
      have e : r = 0 := by rw [hr, bitN, if_neg (by omega)]; rfl
      rw [e] at hk
      cbv
      exact hk
    · have g2 := cNgt har h2
      obtain ⟨p, hp⟩ : ∃ p : Nat, i = p := ⟨i.toNat, by omega⟩
      have q1 : ar.ib .quo .i64 i 64 = ((p / 64 : Nat) : Int) := by rw [hp]; exact iQuo har (b := 64) (by omega)
      have q2 : ar.ib .rem .i64 i 64 = ((p % 64 : Nat) : Int) := by rw [hp]; exact iRem har (b := 64)
      have n1 : ar.nat (ar.ib .quo .i64 i 64) = p / 64 := natOf har q1
      obtain ⟨v, hv⟩ : ∃ v : Int, v = ((n / 2 ^ (64 * (p / 64)) % 18446744073709551616 : Nat) : Int) := ⟨_, rfl⟩
      have rx : x[ar.nat (ar.ib .quo .i64 i 64)]? = some (.int .u64 v) := by rw [n1, hx, hv]; exact w4_get n (by omega)
      have q3 : ar.cv .u64 (ar.ib .rem .i64 i 64) = ((p % 64 : Nat) : Int) := by rw [q2, cvU64 har (by omega)]
      have fin : ar.cv .i64 (ar.ib .rem .u64 (ar.ib .shr .u64 v (ar.cv .u64 (ar.ib .rem .i64 i 64))) 2) = r := by
        rw [q3, hv, iIs har .shr, ib_shr64 (by simp [IntKind.bits]; omega)]
        rw [show (2 : Int) = ((2 : Nat) : Int) from rfl, iRem har, bit_word, hr, bitN, if_pos (by omega)]
        rw [cvI64 har (by omega), hp]; rfl
      have b1 : 0 ≤ ar.ib .quo .i64 i 64 ∧ ar.ib .quo .i64 i 64 < 4 := by rw [q1]; omega
      have b3 : 0 ≤ ar.cv .u64 (ar.ib .rem .i64 i 64) := by rw [q3]; omega
      cbv
      refine ⟨fun _ => b1, _, rx, ?_⟩
      cbv
      refine ⟨fun _ => b3, ?_⟩
      have fin2 := fin
      rw [← fin2] at hk
      exact hk
  · have g1 := cLt har h1
    have e : r = 0 := by rw [hr, bitN, if_neg (by omega)]; rfl
    rw [e] at hk
    cbv
    exact hk

theorem word_bit (n j q : Nat) (hq : q < 64) : (n / 2 ^ (64 * j) % 18446744073709551616).testBit q = n.testBit (64 * j + q) := by
  have := Nat.testBit_mod_two_pow (n / 2 ^ (64 * j)) 64 q
  rw [show (18446744073709551616 : Nat) = 2 ^ 64 from rfl, this, Nat.testBit_div_two_pow, decide_eq_true hq, Bool.true_and]
  congr 1; omega

/-- One bit more in one of the four words. -/
theorem w4_with (n p : Nat) (_hp : p < 256) : (w4 n).set (p / 64) (.int .u64 (((n / 2 ^ (64 * (p / 64)) % 18446744073709551616) ||| 2 ^ (p % 64) : Nat) : Int)) = w4 (n ||| 2 ^ p) := by
  refine List.ext_getElem? fun j => ?_
  have hlen : (w4 n).length = 4 := rfl
  rcases Nat.lt_or_ge j 4 with hj | hj
  · rw [w4_get _ hj, List.getElem?_set, hlen]
    by_cases e : p / 64 = j
    · rw [if_pos e, if_pos (by omega)]
      subst e
      congr 4
      refine Nat.eq_of_testBit_eq fun q => ?_
      rcases Nat.lt_or_ge q 64 with hq | hq
      · rw [Nat.testBit_or, word_bit _ _ _ hq, word_bit _ _ _ hq, Nat.testBit_or, Nat.testBit_two_pow, Nat.testBit_two_pow]
        congr 1
        rw [decide_eq_decide]; omega
      · rw [Nat.testBit_lt_two_pow (x := (n ||| 2 ^ p) / 2 ^ (64 * (p / 64)) % 18446744073709551616) (Nat.lt_of_lt_of_le (Nat.mod_lt _ (by omega)) (Nat.pow_le_pow_right (n := 2) (by omega) hq))]
        rw [Nat.testBit_or, Nat.testBit_two_pow, decide_eq_false (by omega), Bool.or_false]
        exact Nat.testBit_lt_two_pow (Nat.lt_of_lt_of_le (Nat.mod_lt _ (by omega)) (Nat.pow_le_pow_right (n := 2) (by omega) hq))
    · rw [if_neg e, w4_get _ hj]
      refine congrArg (fun z : Nat => some (Value.int .u64 (z : Int))) ?_
      refine Nat.eq_of_testBit_eq fun q => ?_
      rcases Nat.lt_or_ge q 64 with hq | hq
      · rw [word_bit _ _ _ hq, word_bit _ _ _ hq, Nat.testBit_or, Nat.testBit_two_pow, decide_eq_false (by omega), Bool.or_false]
      · rw [Nat.testBit_lt_two_pow (x := (n ||| 2 ^ p) / 2 ^ (64 * j) % 18446744073709551616) (Nat.lt_of_lt_of_le (Nat.mod_lt _ (by omega)) (Nat.pow_le_pow_right (n := 2) (by omega) hq))]
        exact Nat.testBit_lt_two_pow (Nat.lt_of_lt_of_le (Nat.mod_lt _ (by omega)) (Nat.pow_le_pow_right (n := 2) (by omega) hq))
  · rw [List.getElem?_eq_none (by simp [hlen]; omega), List.getElem?_eq_none (by show (w4 _).length ≤ j; exact hj)]

theorem refWith_sound : Sound Try.prog 74 fun args k => ∃ (n p : Nat), args = [pw n, .s (.v (.int .i64 p))] ∧ p < 256 ∧ k [pw (n ||| 2 ^ p)] := by
  refine Sound.of_body tt_ok ent_ok Try.func74 rfl ?_
  rintro ar har Γ hΓ args k ⟨n, p, rfl, hp, hk⟩
  obtain ⟨x, hx⟩ : ∃ x, x = w4 n := ⟨_, rfl⟩
  obtain ⟨i, hi⟩ : ∃ i : Int, i = p := ⟨_, rfl⟩
  obtain ⟨v, hv⟩ : ∃ v : Int, v = ((n / 2 ^ (64 * (p / 64)) % 18446744073709551616 : Nat) : Int) := ⟨_, rfl⟩
  have q1 : ar.ib .quo .i64 i 64 = ((p / 64 : Nat) : Int) := by rw [hi]; exact iQuo har (b := 64) (by omega)
  have q2 : ar.ib .rem .i64 i 64 = ((p % 64 : Nat) : Int) := by rw [hi]; exact iRem har (b := 64)
  have n1 : ar.nat (ar.ib .quo .i64 i 64) = p / 64 := natOf har q1
  have rx : x[ar.nat (ar.ib .quo .i64 i 64)]? = some (.int .u64 v) := by rw [n1, hx, hv]; exact w4_get n (by omega)
  have q3 : ar.cv .u64 (ar.ib .rem .i64 i 64) = ((p % 64 : Nat) : Int) := by rw [q2, cvU64 har (by omega)]
  have b1 : 0 ≤ ar.ib .quo .i64 i 64 ∧ ar.ib .quo .i64 i 64 < 4 := by rw [q1]; omega
  have b3 : 0 ≤ ar.cv .u64 (ar.ib .rem .i64 i 64) := by rw [q3]; omega
  have b4 : ar.nat (ar.ib .quo .i64 i 64) < 4 := by rw [n1]; omega
  have fin : ar.set x (ar.nat (ar.ib .quo .i64 i 64)) (.int .u64 (ar.ib .or .u64 v (ar.ib .shl .u64 1 (ar.cv .u64 (ar.ib .rem .i64 i 64))))) = w4 (n ||| 2 ^ p) := by
    rw [setIs har, n1, q3, hv, hx, iIs har .shl, show (1 : Int) = ((1 : Nat) : Int) from rfl, ib_shl64 (by omega), Nat.one_mul,
      Nat.mod_eq_of_lt (show 2 ^ (p % 64) < 18446744073709551616 from Nat.pow_lt_pow_right (n := 64) (by omega) (by omega)), iIs har .or, ib_or64 (Nat.mod_lt _ (by omega)) (Nat.pow_lt_pow_right (n := 64) (by omega) (by omega))]
    exact w4_with n p hp
  unfold pw at hk ⊢
  rw [← fin] at hk
  rw [← hx, ← hi]
  cbv
  refine ⟨fun _ => b1, _, rx, ?_⟩
  cbv
  exact ⟨fun _ => b3, fun _ => b1, fun _ => b4, hk⟩
end Go.Eng
