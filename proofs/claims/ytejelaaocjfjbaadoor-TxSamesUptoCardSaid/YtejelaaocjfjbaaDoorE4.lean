/-
  The comparison of two access lists inside tx.Same. Condition: at most 2^40 entries, of at most 2^40 keys each.
-/
import Derived.Test.YtejelaaocjfjbaaDoorE0
namespace Go.Eng
open Go Go.Proofs
set_option maxRecDepth 100000
set_option maxHeartbeats 4000000
set_option linter.unusedVariables false

theorem entEq_sound : Sound Tryd.prog 31 fun args k => ∃ (x y : Ent) (b : Bool), args = [.a x.row, .a y.row] ∧ x.ks.length ≤ 2 ^ 40 ∧ (b = true ↔ x.cor = y.cor) ∧ k [.s (.v (.bool b))] := by
  refine Sound.of_body tt_ok ent_ok Tryd.func31 rfl ?_
  rintro ar har Γ hΓ args k ⟨⟨xa, xk, xs⟩, ⟨ya, yk, ys⟩, b, hargs, hl, hb, hk⟩
  obtain ⟨xv, hxv⟩ : ∃ v, v = u8s xa := ⟨_, rfl⟩
  obtain ⟨yv, hyv⟩ : ∃ v, v = u8s ya := ⟨_, rfl⟩
  obtain ⟨xl, hxl⟩ : ∃ v, v = xk.map key := ⟨_, rfl⟩
  obtain ⟨yl, hyl⟩ : ∃ v, v = yk.map key := ⟨_, rfl⟩
  have hno : xa ≠ ya → k [.s (.v (.bool false))] := fun h => by
    have : b = false := by
      cases b with
      | false => rfl
      | true => exact absurd (congrArg Ent.a (hb.1 rfl)) h
    rw [this] at hk; exact hk
  obtain ⟨c, hc⟩ : ∃ c : Bool, (c = true ↔ xk = yk) := ⟨decide (xk = yk), by simp⟩
  have hyes : xa = ya → k [.s (.v (.bool c))] := fun h => by
    have : b = c := by
      rw [Bool.eq_iff_iff, hb, hc]
      constructor
      · intro e; exact congrArg Ent.ks e
      · intro e; rw [Ent.cor, Ent.cor]; simp [h, e]
    rw [this] at hk; exact hk
  have e1 : (Ent.mk xa xk xs).row = [.r 20 xv, .c (.sl xl xs)] := by rw [hxv, hxl]; rfl
  have e2 : (Ent.mk ya yk ys).row = [.r 20 yv, .c (.sl yl ys)] := by rw [hyv, hyl]; rfl
  rw [e1, e2] at hargs
  clear hk e1 e2
  subst hargs
  conv => cbv
  refine ⟨fun _ => ⟨by rw [hxv]; exact ints_u8s _, by rw [hyv]; exact ints_u8s _⟩, fun h => ?_, fun h => ?_⟩
  · have hx : xa = ya := by
      have h3 : ar.eqv xv yv = true := h
      rw [eqvIs har, hxv, hyv, eqVals_u8s] at h3; simpa using h3
    have hk := hyes hx
    conv => cbv
    refine call_by hΓ slEqH_sound ⟨xk, yk, xs, ys, c, by rw [hxl, hyl], hl, fun _ _ => trivial, fun _ _ => trivial, hc, ?_⟩
    conv => cbv
    exact hk
  · have hx : xa ≠ ya := fun e => by
      have h3 : ar.eqv xv yv = false := h
      rw [eqvIs har, hxv, hyv, eqVals_u8s, e] at h3; simp at h3
    have hk := hno hx
    conv => cbv
    exact hk

theorem eqFunc_sound : Sound Tryd.prog 30 fun args k => ∃ (xs ys : List Ent) (s t : List (List PS)) (b : Bool), args = [.s (.sl (xs.map Ent.row) s), .s (.sl (ys.map Ent.row) t), .s (.v (.func (.func 31) #[] #[]))] ∧ xs.length ≤ 2 ^ 40 ∧
    (∀ x ∈ xs, x.ks.length ≤ 2 ^ 40) ∧ (b = true ↔ xs.map Ent.cor = ys.map Ent.cor) ∧ k [.s (.v (.bool b))] := by
  refine Sound.of_body tt_ok ent_ok Tryd.func30 rfl ?_
  rintro ar har Γ hΓ args k ⟨xs, ys, s, t, b, hargs, hl, hks, hb, hk⟩
  obtain ⟨X, hX⟩ : ∃ X, X = xs.map Ent.row := ⟨_, rfl⟩
  obtain ⟨Y, hY⟩ : ∃ Y, Y = ys.map Ent.row := ⟨_, rfl⟩
  have hXl : ar.len X = (xs.length : Int) := by rw [lenIs har, hX, List.length_map]
  have hYl : ar.len Y = (ys.length : Int) := by rw [lenIs har, hY, List.length_map]
  have hno : xs.map Ent.cor ≠ ys.map Ent.cor → k [.s (.v (.bool false))] := fun h => by
    have : b = false := by
      cases b with
      | false => rfl
      | true => exact absurd (hb.1 rfl) h
    rw [this] at hk; exact hk
  have hyes : xs.map Ent.cor = ys.map Ent.cor → k [.s (.v (.bool true))] := fun h => by rw [hb.2 h] at hk; exact hk
  rw [← hX, ← hY] at hargs
  clear hk
  subst hargs
  conv => cbv
  refine ⟨fun h => ?_, fun h => ?_⟩
  · have g := cNe har (a := ar.len X) (b := ar.len Y) h
    have hk := hno (fun e => g (by rw [hXl, hYl]; have := congrArg List.length e; simp at this; omega))
    conv => cbv
    exact hk
  · have g := cNne har (a := ar.len X) (b := ar.len Y) h
    have hll : xs.length = ys.length := by omega
    conv => cbv
    refine .inr ⟨{ q : Nat × Int // q.1 ≤ xs.length ∧ q.2 = q.1 ∧ (xs.take q.1).map Ent.cor = (ys.take q.1).map Ent.cor },
      fun q => ⟨mk 32 [(1, .s (.p (.sl Y t))), (2, .s (.p (.v (.func (.func 31) #[] #[])))), (15, .s (.p (.sl X s))), (16, pint (ar.len X)), (17, pint q.1.2)], []⟩,
      fun q => xs.length - q.1.1, [], _, ⟨(0, 0), Nat.zero_le _, rfl, rfl⟩, rfl, ?_, ?_⟩
    · conv => cbv
      simp
    · rintro ⟨⟨p, pi⟩, hq⟩
      have hp : p ≤ xs.length := hq.1
      have hpi : pi = (p : Int) := hq.2.1
      have hsame : (xs.take p).map Ent.cor = (ys.take p).map Ent.cor := hq.2.2
      dsimp only
      conv => cbv
      refine ⟨fun h => ?_, fun h => ?_⟩
      · have g' := cLt har (b := ar.len X) h
        have hlt : p < xs.length := by omega
        obtain ⟨x, hx⟩ : ∃ x, xs[p]? = some x := ⟨_, List.getElem?_eq_getElem hlt⟩
        obtain ⟨y, hy⟩ : ∃ y, ys[p]? = some y := ⟨_, List.getElem?_eq_getElem (by omega)⟩
        have hxk := hks x (List.mem_of_getElem? hx)
        obtain ⟨xa, xk, xs1⟩ := x
        obtain ⟨ya, yk, ys1⟩ := y
        obtain ⟨xv, hxv⟩ : ∃ v, v = u8s xa := ⟨_, rfl⟩
        obtain ⟨yv, hyv⟩ : ∃ v, v = u8s ya := ⟨_, rfl⟩
        obtain ⟨xl, hxl⟩ : ∃ v, v = xk.map key := ⟨_, rfl⟩
        obtain ⟨yl, hyl⟩ : ∃ v, v = yk.map key := ⟨_, rfl⟩
        have rx : X[pi.toNat]? = some [.r 20 xv, .c (.sl xl xs1)] := by rw [hX, hpi]; simp [hx, Ent.row, hxv, hxl]
        have ry : Y[pi.toNat]? = some [.r 20 yv, .c (.sl yl ys1)] := by rw [hY, hpi]; simp [hy, Ent.row, hyv, hyl]
        obtain ⟨c, hc⟩ : ∃ c : Bool, (c = true ↔ (Ent.mk xa xk xs1).cor = (Ent.mk ya yk ys1).cor) := by
          by_cases e : (Ent.mk xa xk xs1).cor = (Ent.mk ya yk ys1).cor
          · exact ⟨true, by simp [e]⟩
          · exact ⟨false, by simp [e]⟩
        conv => cbv
        refine ⟨_, by omega, rx, rfl, ?_⟩
        conv => cbv
        refine ⟨_, by omega, ry, rfl, ?_⟩
        conv => cbv
        refine call_by hΓ entEq_sound ⟨⟨xa, xk, xs1⟩, ⟨ya, yk, ys1⟩, c, by rw [hxv, hyv, hxl, hyl]; rfl, hxk, hc, ?_⟩
        conv => cbv
        refine ⟨fun h2 => ?_, fun h2 => ?_⟩
        · have h3 := nbT har h2
          have hk := hno (fun e => by
            have e2 : (xs.map Ent.cor)[p]? = (ys.map Ent.cor)[p]? := by rw [e]
            rw [List.getElem?_map, List.getElem?_map, hx, hy] at e2
            rw [hc.2 (Option.some.inj e2)] at h3; cases h3)
          conv => cbv
          exact hk
        · have h3 := hc.1 (nbF har h2)
          have hs2 : (xs.take (p + 1)).map Ent.cor = (ys.take (p + 1)).map Ent.cor := by
            rw [List.take_add_one, List.take_add_one, hx, hy, List.map_append, List.map_append, hsame]
            simp [h3]
          conv => cbv
          refine ⟨⟨(p + 1, ar.ib .add .i64 pi 1), hlt, iSucc har hpi (by omega), hs2⟩, ?_, ?_⟩
          · dsimp only
            conv => cbv
            simp
          · show xs.length - (p + 1) < xs.length - p
            omega
      · have g' := cNlt har (b := ar.len X) h
        have hpe : p = xs.length := by omega
        have hk := hyes (by rw [hpe, List.take_length, hll, List.take_length] at hsame; exact hsame)
        conv => cbv
        exact hk
end Go.Eng
