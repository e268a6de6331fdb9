/-
  u256.Cmp tells the order of two numbers. No condition.
-/
import Derived.Test.YtaenopgnhncgiaaU1
namespace Go.Eng
open Go Go.Proofs
set_option maxRecDepth 100000

theorem ints_w4 (n : Nat) : ints .u64 (w4 n) := by
  intro w hw
  simp only [w4, List.mem_cons, List.not_mem_nil, or_false] at hw
  rcases hw with rfl | rfl | rfl | rfl <;> exact ⟨_, rfl⟩

theorem eqVals_w4 {n m : Nat} (hn : n < M256) (hm : m < M256) : eqVals (w4 n) (w4 m) = decide (n = m) := by
  by_cases h : n = m
  · subst h
    simp [w4, eqVals, intEq]
  · rw [decide_eq_false h]
    obtain ⟨a0, a1, a2, a3, ha0, ha1, ha2, ha3, rfl⟩ := v4_of n hn
    obtain ⟨b0, b1, b2, b3, hb0, hb1, hb2, hb3, rfl⟩ := v4_of m hm
    rw [w4_v4 ha0 ha1 ha2 ha3, w4_v4 hb0 hb1 hb2 hb3]
    simp only [eqVals, intEq, beq_self_eq_true, Bool.true_and, Bool.and_true]
    rw [Bool.eq_false_iff]
    intro e
    simp only [Bool.and_eq_true, beq_iff_eq] at e
    obtain ⟨e0, e1, e2, e3⟩ := e
    have : a0 = b0 := by omega
    have : a1 = b1 := by omega
    have : a2 = b2 := by omega
    have : a3 = b3 := by omega
    subst a0 a1 a2 a3
    exact h rfl

def cmpN (n m : Nat) : Int := if n = m then 0 else if n < m then -1 else 1

theorem u256Cmp_sound : Sound Try.prog 33 fun args k => ∃ n m : Nat, args = [pw n, pw m] ∧ n < M256 ∧ m < M256 ∧ k [.s (.v (.int .i64 (cmpN n m)))] := by
  refine Sound.of_body tt_ok ent_ok Try.func33 rfl ?_
  rintro ar har Γ hΓ args k ⟨n, m, rfl, hn, hm, hk⟩
  obtain ⟨x, hx⟩ : ∃ x, x = w4 n := ⟨_, rfl⟩
  obtain ⟨y, hy⟩ : ∃ y, y = w4 m := ⟨_, rfl⟩
  obtain ⟨z, hz⟩ : ∃ z, z = w4 ((n + M256 - m) % M256) := ⟨_, rfl⟩
  obtain ⟨c, hc⟩ : ∃ c : Int, c = ((if n < m then 1 else 0 : Nat) : Int) := ⟨_, rfl⟩
  obtain ⟨r, hr⟩ : ∃ r, r = cmpN n m := ⟨_, rfl⟩
  unfold pw
  rw [← hx, ← hy]
  rw [← hr] at hk
  cbv
  refine ⟨fun _ => ⟨by rw [hx]; exact ints_w4 n, by rw [hy]; exact ints_w4 m⟩, fun he => ?_, fun he => ?_⟩
  · have e : n = m := by
      have h2 : ar.eqv x y = true := he
      rw [har, hx, hy] at h2
      have h3 : eqVals (w4 n) (w4 m) = true := h2
      rw [eqVals_w4 hn hm] at h3
      exact of_decide_eq_true h3
    cbv
    have e2 : r = 0 := by rw [hr, cmpN, if_pos e]
    rw [e2] at hk
    exact hk
  · have e : n ≠ m := by
      have h2 : ar.eqv x y = false := he
      rw [har, hx, hy] at h2
      have h3 : eqVals (w4 n) (w4 m) = false := h2
      rw [eqVals_w4 hn hm] at h3
      exact of_decide_eq_false h3
    cbv
    refine call_by hΓ u256Sub_sound ⟨n, m, by rw [hx, hy], hn, hm, ?_⟩
    have hc : c = ((if n < m then 1 else 0 : Nat) : Int) := hc
    have hz : z = w4 ((n + M256 - m) % M256) := hz
    unfold pw
    rw [← hz, ← hc]
    cbv
    refine ⟨fun hb => ?_, fun hb => ?_⟩
    · have h1 : c = 1 := by
        have h2 : ar.cb .eql c 1 = true := hb
        rw [har] at h2
        simpa [arS, intC] using h2
      cbv
      have e2 : r = -1 := by
        rw [hr, cmpN, if_neg e, if_pos]
        rw [h1] at hc
        by_cases hlt : n < m
        · exact hlt
        · rw [if_neg hlt] at hc; exact absurd hc (by decide)
      rw [e2] at hk
      exact hk
    · have h1 : c ≠ 1 := by
        have h2 : ar.cb .eql c 1 = false := hb
        rw [har] at h2
        simpa [arS, intC] using h2
      cbv
      have e2 : r = 1 := by
        rw [hr, cmpN, if_neg e, if_neg]
        intro hlt
        rw [if_pos hlt] at hc
        exact h1 hc
      rw [e2] at hk
      exact hk
end Go.Eng
