/-
  sameList answers whether two access lists are the same. Condition: at most 2^40 entries, of at most 2^40 keys each.
-/
import Derived.Test.YtpcgpmgjbgenkaaA1
namespace Go.Eng
open Go Go.Proofs

set_option maxRecDepth 100000
theorem sameList_sound : Sound Try.prog 34 fun args k => ∃ (xs ys : List Ent) (s t : List (List PS)), args = [.s (.sl (xs.map Ent.row) s), .s (.sl (ys.map Ent.row) t)] ∧ xs.length ≤ 2 ^ 40 ∧ (∀ e ∈ xs, e.ks.length ≤ 2 ^ 40) ∧ k [.s (.v (.bool (xs.map Ent.core == ys.map Ent.core)))] := by
  refine Sound.of_body tt_ok ent_ok Try.func34 rfl ?_
  rintro ar har Γ hΓ args k ⟨xs, ys, s, t, rfl, hlen, hks, hk⟩
  obtain ⟨X, hX⟩ : ∃ X, X = xs.map Ent.row := ⟨_, rfl⟩
  obtain ⟨Y, hY⟩ : ∃ Y, Y = ys.map Ent.row := ⟨_, rfl⟩
  obtain ⟨res, hres⟩ : ∃ res, res = (xs.map Ent.core == ys.map Ent.core) := ⟨_, rfl⟩
  rw [← hX, ← hY]
  rw [← hres] at hk
  cbv
  constructor
  · intro h
    have hne : xs.length ≠ ys.length := by rw [har] at h; simp [arS, intC, hX, hY] at h; omega
    cbv
    have e : res = false := by
      rw [hres, beq_eq_false_iff_ne]; intro e; exact hne (by have := congrArg List.length e; simpa using this)
    rw [e] at hk
    exact hk
  · intro h
    have hne : xs.length = ys.length := by rw [har] at h; simp [arS, intC, hX, hY] at h; omega
    cbv
    refine ⟨{ q : Nat × Int // q.1 ≤ xs.length ∧ q.2 = q.1 ∧ (xs.take q.1).map Ent.core = (ys.take q.1).map Ent.core }, fun q => ⟨mk 42 [(0, .s (.p (.sl X s))), (1, .s (.p (.sl Y t))), (5, pint q.1.2)], []⟩,
      fun q => xs.length - q.1.1, [], _, ⟨(0, 0), Nat.zero_le _, rfl, rfl⟩, rfl, ?_, ?_⟩
    · cbv
    · rintro ⟨⟨p, pi⟩, hq⟩
      have hp : p ≤ xs.length := hq.1
      have hpi : pi = (p : Int) := hq.2.1
      have hsame : (xs.take p).map Ent.core = (ys.take p).map Ent.core := hq.2.2
      dsimp only
      cbv
      constructor
      · intro hlt
        have hpi : pi = (p : Int) := hpi
        have hlt' : p < xs.length := by rw [har] at hlt; simpa [arS, intC, hX, hpi] using hlt
        obtain ⟨x, hx⟩ : ∃ x, xs[p]? = some x := ⟨_, List.getElem?_eq_getElem hlt'⟩
        obtain ⟨y, hy⟩ : ∃ y, ys[p]? = some y := ⟨_, List.getElem?_eq_getElem (by omega)⟩
        obtain ⟨xa, xk, xs1⟩ := x
        obtain ⟨ya, yk, ys1⟩ := y
        obtain ⟨xv, hxv⟩ : ∃ xv, xv = u8s xa := ⟨_, rfl⟩
        obtain ⟨yv, hyv⟩ : ∃ yv, yv = u8s ya := ⟨_, rfl⟩
        obtain ⟨xl, hxl⟩ : ∃ xl, xl = xk.map key := ⟨_, rfl⟩
        obtain ⟨yl, hyl⟩ : ∃ yl, yl = yk.map key := ⟨_, rfl⟩
        have rx : X[pi.toNat]? = some [.r 20 xv, .c (.sl xl xs1)] := by rw [hX, hpi]; simp [hx, Ent.row, hxv, hxl]
        have ry : Y[pi.toNat]? = some [.r 20 yv, .c (.sl yl ys1)] := by rw [hY, hpi]; simp [hy, Ent.row, hyv, hyl]
        cbv
        refine ⟨by rw [har]; kernel_rfl, ?_⟩
        have hpi : pi = (p : Int) := hpi
        refine ⟨_, by omega, rx, rfl, ?_⟩
        cbv
        have hpi : pi = (p : Int) := hpi
        refine ⟨_, by omega, ry, rfl, ?_⟩
        cbv
        have hpi : pi = (p : Int) := hpi
        have tx : xs.take (p + 1) = xs.take p ++ [⟨xa, xk, xs1⟩] := by rw [List.take_add_one, hx]; rfl
        have ty : ys.take (p + 1) = ys.take p ++ [⟨ya, yk, ys1⟩] := by rw [List.take_add_one, hy]; rfl
        refine ⟨fun _ => ⟨by rw [hxv]; exact ints_u8s xa, by rw [hyv]; exact ints_u8s ya⟩, fun hne2 => ?_, fun hne2 => ?_⟩
        · have hxy : xa = ya := by rw [har, hxv, hyv] at hne2; simpa [arS, eqVals_u8s] using hne2
          cbv
          have hpi : pi = (p : Int) := hpi
          refine ⟨_, by omega, rx, rfl, ?_⟩
          cbv
          have hpi : pi = (p : Int) := hpi
          refine ⟨_, by omega, ry, rfl, ?_⟩
          cbv
          refine call_by hΓ sameKeys_sound ⟨xk, yk, xs1, ys1, by rw [hxl, hyl], hks _ (List.mem_of_getElem? hx), ?_⟩
          obtain ⟨kb, hkb⟩ : ∃ kb, kb = (xk == yk) := ⟨_, rfl⟩
          rw [← hkb]
          cbv
          refine ⟨fun hnb => ?_, fun hnb => ?_⟩
          · have hb : kb = false := by rw [har] at hnb; simpa [arS] using hnb
            cbv
            have e : res = false := by
              rw [hres, beq_eq_false_iff_ne]; intro e
              have h1 := congrArg (fun l => l[p]?) e
              simp [hx, hy, Ent.core] at h1
              rw [h1.2] at hkb
              simp [hb] at hkb
            rw [e] at hk
            exact hk
          · have hb : kb = true := by rw [har] at hnb; simpa [arS] using hnb
            have hkk : xk = yk := by rw [hb] at hkb; exact eq_of_beq hkb.symm
            cbv
            refine ⟨⟨(p + 1, ar.ib .add .i64 pi 1), hlt', ?_, ?_⟩, ?_, ?_⟩
            · have hpi : pi = (p : Int) := hpi
              show ar.ib .add .i64 pi 1 = ((p + 1 : Nat) : Int)
              rw [har, hpi]; simp only [arS, intB]; rw [wrap_small (by omega)]; omega
            · show (xs.take (p + 1)).map Ent.core = (ys.take (p + 1)).map Ent.core
              rw [tx, ty, List.map_append, List.map_append, hsame, hxy, hkk]; rfl
            · dsimp only
              cbv
            · show xs.length - (p + 1) < xs.length - p
              omega
        · have hxy : (xa == ya) = false := by rw [har, hxv, hyv] at hne2; simpa [arS, eqVals_u8s] using hne2
          cbv
          have e : res = false := by
            rw [hres, beq_eq_false_iff_ne]; intro e
            have h1 := congrArg (fun l => l[p]?) e
            simp [hx, hy, Ent.core] at h1
            rw [h1.1] at hxy
            simp at hxy
          rw [e] at hk
          exact hk
      · intro hge
        have hpi : pi = (p : Int) := hpi
        have hge' : p = xs.length := by rw [har] at hge; simp [arS, intC, hX, hpi] at hge; omega
        cbv
        have e : res = true := by
          rw [hres, beq_iff_eq]
          rw [hge', List.take_length, List.take_of_length_le (by omega)] at hsame
          exact hsame
        rw [e] at hk
        exact hk
end Go.Eng
