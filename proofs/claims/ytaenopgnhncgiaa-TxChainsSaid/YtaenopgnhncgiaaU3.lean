/-
  The reference reads a number as eight digits of 32 bits. No condition.
-/
import Derived.Test.YtaenopgnhncgiaaU2
namespace Go.Eng
open Go Go.Proofs
set_option maxRecDepth 100000

/-- The eight digits of 32 bits of a number. -/
def d8 (n : Nat) : List Value := [.int .u64 (n % 4294967296 : Nat), .int .u64 (n / 4294967296 % 4294967296 : Nat), .int .u64 (n / 18446744073709551616 % 4294967296 : Nat), .int .u64 (n / 79228162514264337593543950336 % 4294967296 : Nat), .int .u64 (n / 340282366920938463463374607431768211456 % 4294967296 : Nat), .int .u64 (n / 1461501637330902918203684832716283019655932542976 % 4294967296 : Nat), .int .u64 (n / 6277101735386680763835789423207666416102355444464034512896 % 4294967296 : Nat), .int .u64 (n / 26959946667150639794667015087019630673637144422540572481103610249216 % 4294967296 : Nat)]

theorem d8_v4 {a b c d : Nat} (ha : a < 18446744073709551616) (hb : b < 18446744073709551616) (hc : c < 18446744073709551616) (hd : d < 18446744073709551616) :
    d8 (v4 a b c d) = [.int .u64 (a % 4294967296 : Nat), .int .u64 (a / 4294967296 : Nat), .int .u64 (b % 4294967296 : Nat), .int .u64 (b / 4294967296 : Nat), .int .u64 (c % 4294967296 : Nat), .int .u64 (c / 4294967296 : Nat), .int .u64 (d % 4294967296 : Nat), .int .u64 (d / 4294967296 : Nat)] := by
  have e0 : v4 a b c d % 4294967296 = a % 4294967296 := by unfold v4; omega
  have e1 : v4 a b c d / 4294967296 % 4294967296 = a / 4294967296 := by unfold v4; omega
  have e2 : v4 a b c d / 18446744073709551616 % 4294967296 = b % 4294967296 := by unfold v4; omega
  have e3 : v4 a b c d / 79228162514264337593543950336 % 4294967296 = b / 4294967296 := by unfold v4; omega
  have e4 : v4 a b c d / 340282366920938463463374607431768211456 % 4294967296 = c % 4294967296 := by unfold v4; omega
  have e5 : v4 a b c d / 1461501637330902918203684832716283019655932542976 % 4294967296 = c / 4294967296 := by unfold v4; omega
  have e6 : v4 a b c d / 6277101735386680763835789423207666416102355444464034512896 % 4294967296 = d % 4294967296 := by unfold v4; omega
  have e7 : v4 a b c d / 26959946667150639794667015087019630673637144422540572481103610249216 % 4294967296 = d / 4294967296 := by unfold v4; omega
  unfold d8
  rw [e0, e1, e2, e3, e4, e5, e6, e7]

abbrev pd (n : Nat) : PR := .a [.r 8 (d8 n)]

theorem wrap_u64 {n : Nat} (h : n < 18446744073709551616) : IntKind.u64.wrap (n : Int) = n := by
  have e : IntKind.u64.wrap (n : Int) = (n : Int) % 18446744073709551616 := by simp [IntKind.wrap, IntKind.bits, IntKind.signed]
  rw [e]; omega

theorem ib_rem {a : Nat} (m : Nat) : intB .rem .u64 (a : Int) (m : Int) = ((a % m : Nat) : Int) := by
  simp only [intB]
  rw [Int.tmod_eq_emod_of_nonneg (by omega)]
  omega

theorem ib_quo {a m : Nat} (h : a < 18446744073709551616) : intB .quo .u64 (a : Int) (m : Int) = ((a / m : Nat) : Int) := by
  simp only [intB]
  rw [Int.tdiv_eq_ediv_of_nonneg (by omega), ← Int.natCast_ediv]
  exact wrap_u64 (Nat.lt_of_le_of_lt (Nat.div_le_self a m) h)

theorem digits_sound : Sound Try.prog 56 fun args k => ∃ n : Nat, args = [pw n] ∧ n < M256 ∧ k [pd n] := by
  refine Sound.of_body tt_ok ent_ok Try.func56 rfl ?_
  rintro ar har Γ hΓ args k ⟨n, rfl, hn, hk⟩
  obtain ⟨a0, a1, a2, a3, ha0, ha1, ha2, ha3, rfl⟩ := v4_of n hn
  unfold pw
  unfold pd at hk
  rw [w4_v4 ha0 ha1 ha2 ha3]
  rw [d8_v4 ha0 ha1 ha2 ha3] at hk
  obtain ⟨x0, hx0⟩ : ∃ z : Int, z = a0 := ⟨_, rfl⟩
  obtain ⟨x1, hx1⟩ : ∃ z : Int, z = a1 := ⟨_, rfl⟩
  obtain ⟨x2, hx2⟩ : ∃ z : Int, z = a2 := ⟨_, rfl⟩
  obtain ⟨x3, hx3⟩ : ∃ z : Int, z = a3 := ⟨_, rfl⟩
  have r : ∀ {x : Int} {a : Nat}, x = a → ar.ib .rem .u64 x 4294967296 = ((a % 4294967296 : Nat) : Int) := fun hx => by rw [har, hx]; exact ib_rem 4294967296
  have q : ∀ {x : Int} {a : Nat}, x = a → a < 18446744073709551616 → ar.ib .quo .u64 x 4294967296 = ((a / 4294967296 : Nat) : Int) := fun hx ha => by rw [har, hx]; exact ib_quo ha
  rw [← r hx0, ← q hx0 ha0, ← r hx1, ← q hx1 ha1, ← r hx2, ← q hx2 ha2, ← r hx3, ← q hx3 ha3] at hk
  rw [← hx0, ← hx1, ← hx2, ← hx3]
  clear r q
  cbv
  refine .inl ⟨5, ?_⟩
  cbv
  exact hk
end Go.Eng
