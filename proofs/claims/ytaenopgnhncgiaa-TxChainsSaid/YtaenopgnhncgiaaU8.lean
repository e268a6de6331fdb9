/-
  u256.Shr by one place halves the number. No condition.
-/
import Derived.Test.YtaenopgnhncgiaaN0
namespace Go.Eng
open Go Go.Proofs
set_option maxRecDepth 100000

theorem shr1_word {a b : Nat} (ha : a < 18446744073709551616) (_hb : b < 18446744073709551616) :
    intB .or .u64 (intB .shr .u64 (a : Int) 1) (intB .shl .u64 (b : Int) 63) = ((a / 2 + b % 2 * 9223372036854775808 : Nat) : Int) := by
  have h1 := ib_shr64 (k := .u64) (a := a) (s := 1) (by decide)
  have h2 := ib_shl64 (a := b) (s := 63) (by omega)
  rw [show ((1 : Nat) : Int) = 1 from rfl] at h1
  rw [show ((63 : Nat) : Int) = 63 from rfl] at h2
  rw [h1, h2]
  have e : b * 2 ^ 63 % 18446744073709551616 = (b % 2) * 2 ^ 63 := by omega
  rw [e, ib_or64 (by omega) (by omega), or_add (by omega)]

theorem shr1_top {a : Nat} : intB .shr .u64 (a : Int) 1 = ((a / 2 : Nat) : Int) := by
  have h1 := ib_shr64 (k := .u64) (a := a) (s := 1) (by decide)
  rw [show ((1 : Nat) : Int) = 1 from rfl] at h1
  rw [h1]

theorem half_v4 {a b c d : Nat} : v4 a b c d / 2 = v4 (a / 2 + b % 2 * 9223372036854775808) (b / 2 + c % 2 * 9223372036854775808) (c / 2 + d % 2 * 9223372036854775808) (d / 2) := by
  unfold v4; omega

theorem u256Shr1_sound : Sound Try.prog 34 fun args k => ∃ n : Nat, args = [pw n, .s (.v (.int .i64 1))] ∧ n < M256 ∧ k [pw (n / 2)] := by
  obtain ⟨bs, hbs⟩ : ∃ bs : List Bool, bs = [false, true] := ⟨_, rfl⟩
  refine Sound.of_bodyL bs 0 tt_ok ent_ok Try.func34 rfl ?_
  rintro ar har Γ hΓ args k ⟨n, rfl, hn, hk⟩
  obtain ⟨a0, a1, a2, a3, ha0, ha1, ha2, ha3, rfl⟩ := v4_of n hn
  obtain ⟨x0, hx0⟩ : ∃ z : Int, z = a0 := ⟨_, rfl⟩
  obtain ⟨x1, hx1⟩ : ∃ z : Int, z = a1 := ⟨_, rfl⟩
  obtain ⟨x2, hx2⟩ : ∃ z : Int, z = a2 := ⟨_, rfl⟩
  obtain ⟨x3, hx3⟩ : ∃ z : Int, z = a3 := ⟨_, rfl⟩
  have hib : ar.ib = intB := by rw [har]; rfl
  have e0 : ar.ib .or .u64 (ar.ib .shr .u64 x0 1) (ar.ib .shl .u64 x1 63) = ((a0 / 2 + a1 % 2 * 9223372036854775808 : Nat) : Int) := by rw [hib, hx0, hx1]; exact shr1_word ha0 ha1
  have e1 : ar.ib .or .u64 (ar.ib .shr .u64 x1 1) (ar.ib .shl .u64 x2 63) = ((a1 / 2 + a2 % 2 * 9223372036854775808 : Nat) : Int) := by rw [hib, hx1, hx2]; exact shr1_word ha1 ha2
  have e2 : ar.ib .or .u64 (ar.ib .shr .u64 x2 1) (ar.ib .shl .u64 x3 63) = ((a2 / 2 + a3 % 2 * 9223372036854775808 : Nat) : Int) := by rw [hib, hx2, hx3]; exact shr1_word ha2 ha3
  have e3 : ar.ib .shr .u64 x3 1 = ((a3 / 2 : Nat) : Int) := by rw [hib, hx3]; exact shr1_top (a := a3)
  have hw := w4_v4 (a := a0 / 2 + a1 % 2 * 9223372036854775808) (b := a1 / 2 + a2 % 2 * 9223372036854775808) (c := a2 / 2 + a3 % 2 * 9223372036854775808) (d := a3 / 2) (by omega) (by omega) (by omega) (by omega)
  rw [← half_v4, ← e0, ← e1, ← e2, ← e3] at hw
  unfold pw at hk ⊢
  rw [hw] at hk
  rw [w4_v4 ha0 ha1 ha2 ha3, ← hx0, ← hx1, ← hx2, ← hx3]
  clear hw e0 e1 e2 e3 hn
  subst hbs
  cbv
  refine .inl ⟨5, ?_⟩
  cbv
  refine ⟨by rw [har]; kernel_rfl, ?_⟩
  cbv
  refine ⟨by rw [har]; kernel_rfl, ?_⟩
  cbv
  refine ⟨by rw [har]; kernel_rfl, ?_⟩
  cbv
  exact hk
end Go.Eng
