/-
  The reference tells a number that fits one word; num tells a number. No condition.
-/
import Derived.Test.YtaenopgnhncgiaaU6
namespace Go.Eng
open Go Go.Proofs
set_option maxRecDepth 100000

theorem num15_sound : Sound Try.prog 11 fun args k => ∃ n : Int, args = [.s (.v (.int .i64 n))] ∧ k [.s (.v (.int .i64 n))] := by
  refine Sound.of_body tt_ok ent_ok Try.func11 rfl ?_
  rintro ar har Γ hΓ args k ⟨n, rfl, hk⟩
  cbv
  exact hk

def smallW (n : Nat) : Int := if n < 18446744073709551616 then n else 0
def smallE (n : Nat) : Int := if n < 18446744073709551616 then 0 else 11

theorem refSmall_sound : Sound Try.prog 36 fun args k => ∃ n : Nat, args = [pw n] ∧ n < M256 ∧ k [.s (.v (.int .u64 (smallW n))), .s (.v (.int .i64 (smallE n)))] := by
  refine Sound.of_body tt_ok ent_ok Try.func36 rfl ?_
  rintro ar har Γ hΓ args k ⟨n, rfl, hn, hk⟩
  obtain ⟨a0, a1, a2, a3, ha0, ha1, ha2, ha3, rfl⟩ := v4_of n hn
  obtain ⟨sw, hsw⟩ : ∃ s, s = smallW (v4 a0 a1 a2 a3) := ⟨_, rfl⟩
  obtain ⟨se, hse⟩ : ∃ s, s = smallE (v4 a0 a1 a2 a3) := ⟨_, rfl⟩
  rw [← hsw, ← hse] at hk
  have big : a1 ≠ 0 ∨ a2 ≠ 0 ∨ a3 ≠ 0 → ¬ v4 a0 a1 a2 a3 < 18446744073709551616 := fun h => by unfold v4; omega
  have sm : a1 = 0 → a2 = 0 → a3 = 0 → v4 a0 a1 a2 a3 = a0 := fun h1 h2 h3 => by unfold v4; omega
  unfold pw
  rw [w4_v4 ha0 ha1 ha2 ha3]
  obtain ⟨x0, hx0⟩ : ∃ z : Int, z = a0 := ⟨_, rfl⟩
  obtain ⟨x1, hx1⟩ : ∃ z : Int, z = a1 := ⟨_, rfl⟩
  obtain ⟨x2, hx2⟩ : ∃ z : Int, z = a2 := ⟨_, rfl⟩
  obtain ⟨x3, hx3⟩ : ∃ z : Int, z = a3 := ⟨_, rfl⟩
  rw [← hx0, ← hx1, ← hx2, ← hx3]
  have ne : ∀ {x : Int} {a : Nat}, x = a → ar.cb .neq x 0 = true → a ≠ 0 := fun hx h => by
    rw [har, hx] at h
    have h2 : intC .neq _ 0 = true := h
    simp only [intC, bne_iff_ne] at h2
    omega
  have eq : ∀ {x : Int} {a : Nat}, x = a → ar.cb .neq x 0 = false → a = 0 := fun hx h => by
    rw [har, hx] at h
    have h2 : intC .neq _ 0 = false := h
    simp only [intC, bne_eq_false_iff_eq] at h2
    omega
  have fail : (a1 ≠ 0 ∨ a2 ≠ 0 ∨ a3 ≠ 0) → k [.s (.v (.int .u64 0)), .s (.v (.int .i64 11))] := fun h => by
    have e1 : sw = 0 := by rw [hsw, smallW, if_neg (big h)]
    have e2 : se = 11 := by rw [hse, smallE, if_neg (big h)]
    rw [e1, e2] at hk
    exact hk
  have good : a1 = 0 → a2 = 0 → a3 = 0 → k [.s (.v (.int .u64 x0)), .s (.v (.int .i64 0))] := fun h1 h2 h3 => by
    have e0 := sm h1 h2 h3
    have e1 : sw = x0 := by rw [hsw, smallW, e0, if_pos ha0, hx0]
    have e2 : se = 0 := by rw [hse, smallE, e0, if_pos ha0]
    rw [e1, e2] at hk
    exact hk
  cbv
  refine ⟨fun h1 => ?_, fun h1 => ?_⟩
  · cbv
    refine ⟨fun h2 => ?_, fun h2 => ?_⟩
    · cbv
      refine ⟨fun h3 => ?_, fun h3 => ?_⟩
      · cbv
        exact fail (.inr (.inr (ne hx3 h3)))
      · cbv
        exact good (eq hx1 h1) (eq hx2 h2) (eq hx3 h3)
    · cbv
      exact fail (.inr (.inl (ne hx2 h2)))
  · cbv
    exact fail (.inl (ne hx1 h1))
end Go.Eng
