/-
  sameKeys answers whether two lists of keys are the same. Condition: at most 2^40 keys.
-/
import Derived.Test.YtpcgpmgjbgenkaaA0
namespace Go.Eng
open Go Go.Proofs

set_option maxRecDepth 100000
theorem sameKeys_sound : Sound Try.prog 58 fun args k => ∃ (xs ys : List (List Int)) (s t : List (List PS)), args = [.s (.sl (xs.map key) s), .s (.sl (ys.map key) t)] ∧ xs.length ≤ 2 ^ 40 ∧ k [.s (.v (.bool (xs == ys)))] := by
  refine Sound.of_body tt_ok ent_ok Try.func58 rfl ?_
  rintro ar har Γ hΓ args k ⟨xs, ys, s, t, rfl, hlen, hk⟩
  obtain ⟨X, hX⟩ : ∃ X, X = xs.map key := ⟨_, rfl⟩
  obtain ⟨Y, hY⟩ : ∃ Y, Y = ys.map key := ⟨_, rfl⟩
  rw [← hX, ← hY]
  cbv
  constructor
  · intro h
    have hne : xs.length ≠ ys.length := by rw [har] at h; simp [arS, intC, hX, hY] at h; omega
    cbv
    have e : (xs == ys) = false := by
      rw [beq_eq_false_iff_ne]; intro e; exact hne (by rw [e])
    rw [e] at hk
    exact hk
  · intro h
    have hne : xs.length = ys.length := by rw [har] at h; simp [arS, intC, hX, hY] at h; omega
    cbv
    refine ⟨{ q : Nat × Int // q.1 ≤ xs.length ∧ q.2 = q.1 ∧ xs.take q.1 = ys.take q.1 }, fun q => ⟨mk 26 [(0, .s (.p (.sl X s))), (1, .s (.p (.sl Y t))), (5, pint q.1.2)], []⟩,
      fun q => xs.length - q.1.1, [], _, ⟨(0, 0), Nat.zero_le _, rfl, rfl⟩, rfl, ?_, ?_⟩
    · cbv
    · rintro ⟨⟨p, pi⟩, hq⟩
      have hp : p ≤ xs.length := hq.1
      have hpi : pi = (p : Int) := hq.2.1
      have hsame : xs.take p = ys.take p := hq.2.2
      dsimp only
      cbv
      constructor
      · intro hlt
        have hpi : pi = (p : Int) := hpi
        have hlt' : p < xs.length := by rw [har] at hlt; simpa [arS, intC, hX, hpi] using hlt
        obtain ⟨x, hx⟩ : ∃ x, xs[p]? = some x := ⟨_, List.getElem?_eq_getElem hlt'⟩
        obtain ⟨y, hy⟩ : ∃ y, ys[p]? = some y := ⟨_, List.getElem?_eq_getElem (by omega)⟩
        obtain ⟨xv, hxv⟩ : ∃ xv, xv = u8s x := ⟨_, rfl⟩
        obtain ⟨yv, hyv⟩ : ∃ yv, yv = u8s y := ⟨_, rfl⟩
        cbv
        refine ⟨by rw [har]; kernel_rfl, ?_⟩
        have hpi : pi = (p : Int) := hpi
        refine ⟨[.r 32 xv], by omega, ?_, rfl, ?_⟩
        · rw [hX, hpi]; simp [hx, key, hxv]
        cbv
        have hpi : pi = (p : Int) := hpi
        refine ⟨[.r 32 yv], by omega, ?_, rfl, ?_⟩
        · rw [hY, hpi]; simp [hy, key, hyv]
        cbv
        have hpi : pi = (p : Int) := hpi
        have tx : xs.take (p + 1) = xs.take p ++ [x] := by rw [List.take_add_one, hx]; rfl
        have ty : ys.take (p + 1) = ys.take p ++ [y] := by rw [List.take_add_one, hy]; rfl
        refine ⟨fun _ => ⟨by rw [hxv]; exact ints_u8s x, by rw [hyv]; exact ints_u8s y⟩, fun hne2 => ?_, fun hne2 => ?_⟩
        · have hxy : (x == y) = false := by rw [har, hxv, hyv] at hne2; simpa [arS, eqVals_u8s] using hne2
          cbv
          have e : (xs == ys) = false := by
            rw [beq_eq_false_iff_ne]; intro e
            rw [e, hy] at hx
            cases hx
            simp at hxy
          rw [e] at hk
          exact hk
        · have hxy : x = y := by rw [har, hxv, hyv] at hne2; simpa [arS, eqVals_u8s] using hne2
          cbv
          refine ⟨⟨(p + 1, ar.ib .add .i64 pi 1), hlt', ?_, ?_⟩, ?_, ?_⟩
          · have hpi : pi = (p : Int) := hpi
            show ar.ib .add .i64 pi 1 = ((p + 1 : Nat) : Int)
            rw [har, hpi]; simp only [arS, intB]; rw [wrap_small (by omega)]; omega
          · show xs.take (p + 1) = ys.take (p + 1)
            rw [tx, ty, hsame, hxy]
          · dsimp only
            cbv
          · show xs.length - (p + 1) < xs.length - p
            omega
      · intro hge
        have hpi : pi = (p : Int) := hpi
        have hge' : p = xs.length := by rw [har] at hge; simp [arS, intC, hX, hpi] at hge; omega
        cbv
        have e : (xs == ys) = true := by
          rw [beq_iff_eq]
          rw [hge', List.take_length, List.take_of_length_le (by omega)] at hsame
          exact hsame
        rw [e] at hk
        exact hk
end Go.Eng
