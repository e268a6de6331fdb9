/-
  The reference joins eight digits of 32 bits to a number. Condition: each digit is below 2^32.
-/
import Derived.Test.YtaenopgnhncgiaaU3
namespace Go.Eng
open Go Go.Proofs
set_option maxRecDepth 100000

theorem ib_mul {a m : Nat} (h : m * a < 18446744073709551616) : intB .mul .u64 (m : Int) (a : Int) = ((m * a : Nat) : Int) := by
  simp only [intB]
  rw [← Int.natCast_mul]
  exact wrap_u64 h

theorem ib_add {a b : Nat} (h : a + b < 18446744073709551616) : intB .add .u64 (a : Int) (b : Int) = ((a + b : Nat) : Int) := by
  simp only [intB]
  rw [← Int.natCast_add]
  exact wrap_u64 h

theorem number_sound : Sound Try.prog 57 fun args k => ∃ e0 e1 e2 e3 e4 e5 e6 e7 : Nat, args = [.a [.r 8 [.int .u64 e0, .int .u64 e1, .int .u64 e2, .int .u64 e3, .int .u64 e4, .int .u64 e5, .int .u64 e6, .int .u64 e7]]] ∧ e0 < 4294967296 ∧ e1 < 4294967296 ∧ e2 < 4294967296 ∧ e3 < 4294967296 ∧ e4 < 4294967296 ∧ e5 < 4294967296 ∧ e6 < 4294967296 ∧ e7 < 4294967296 ∧ k [pw (v4 (e0 + 4294967296 * e1) (e2 + 4294967296 * e3) (e4 + 4294967296 * e5) (e6 + 4294967296 * e7))] := by
  refine Sound.of_body tt_ok ent_ok Try.func57 rfl ?_
  rintro ar har Γ hΓ args k ⟨e0, e1, e2, e3, e4, e5, e6, e7, rfl, h0, h1, h2, h3, h4, h5, h6, h7, hk⟩
  unfold pw at hk
  rw [w4_v4 (by omega) (by omega) (by omega) (by omega)] at hk
  obtain ⟨x0, hx0⟩ : ∃ z : Int, z = e0 := ⟨_, rfl⟩
  obtain ⟨x1, hx1⟩ : ∃ z : Int, z = e1 := ⟨_, rfl⟩
  obtain ⟨x2, hx2⟩ : ∃ z : Int, z = e2 := ⟨_, rfl⟩
  obtain ⟨x3, hx3⟩ : ∃ z : Int, z = e3 := ⟨_, rfl⟩
  obtain ⟨x4, hx4⟩ : ∃ z : Int, z = e4 := ⟨_, rfl⟩
  obtain ⟨x5, hx5⟩ : ∃ z : Int, z = e5 := ⟨_, rfl⟩
  obtain ⟨x6, hx6⟩ : ∃ z : Int, z = e6 := ⟨_, rfl⟩
  obtain ⟨x7, hx7⟩ : ∃ z : Int, z = e7 := ⟨_, rfl⟩
  have s : ∀ {x y : Int} {a b : Nat}, x = a → y = b → a < 4294967296 → b < 4294967296 → ar.ib .add .u64 x (ar.ib .mul .u64 4294967296 y) = ((a + 4294967296 * b : Nat) : Int) := fun hx hy ha hb => by
    rw [har, hx, hy]
    show intB .add .u64 _ (intB .mul .u64 ((4294967296 : Nat) : Int) _) = _
    rw [ib_mul (by omega), ib_add (by omega)]
  rw [← s hx0 hx1 h0 h1, ← s hx2 hx3 h2 h3, ← s hx4 hx5 h4 h5, ← s hx6 hx7 h6 h7] at hk
  rw [← hx0, ← hx1, ← hx2, ← hx3, ← hx4, ← hx5, ← hx6, ← hx7]
  clear s
  cbv
  refine .inl ⟨5, ?_⟩
  cbv
  exact ⟨by rw [har]; kernel_rfl, by rw [har]; kernel_rfl, by rw [har]; kernel_rfl, by rw [har]; kernel_rfl, hk⟩
end Go.Eng
