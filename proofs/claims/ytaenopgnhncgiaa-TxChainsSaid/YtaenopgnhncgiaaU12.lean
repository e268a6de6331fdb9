/-
  The reference's Chain, and the law TxChains: true. No condition.
-/
import Derived.Test.YtaenopgnhncgiaaU11
namespace Go.Eng
open Go Go.Proofs
set_option maxRecDepth 100000
set_option maxHeartbeats 2000000

theorem refChain_sound : Sound Try.prog 10 fun args k => ∃ n : Nat, args = [pw n] ∧ n < M256 ∧ k [.s (.v (.int .u64 (chC n))), .s (.v (.bool (chN n))), .s (.v (.bool (chO n))), .s (.v (.int .i64 (chE n)))] := by
  refine Sound.of_body tt_ok ent_ok Try.func10 rfl ?_
  rintro ar har Γ hΓ args k ⟨n, rfl, hn, hk⟩
  obtain ⟨x, hx⟩ : ∃ x, x = w4 n := ⟨_, rfl⟩
  obtain ⟨c1, hc1⟩ : ∃ x : Int, x = (chC n : Int) := ⟨_, rfl⟩
  obtain ⟨c2, hc2⟩ : ∃ x, x = chN n := ⟨_, rfl⟩
  obtain ⟨c3, hc3⟩ : ∃ x, x = chO n := ⟨_, rfl⟩
  obtain ⟨c4, hc4⟩ : ∃ x, x = chE n := ⟨_, rfl⟩
  rw [← hc1, ← hc2, ← hc3, ← hc4] at hk
  have fail : ¬ (n = 27 ∨ n = 28 ∨ (35 ≤ n ∧ 1 ≤ (n - 35) / 2 ∧ (n - 35) / 2 ≤ 9223372036854775807)) → k [.s (.v (.int .u64 0)), .s (.v (.bool false)), .s (.v (.bool false)), .s (.v (.int .i64 154))] := fun h => by
    have e1 : c1 = 0 := by rw [hc1, chC, if_neg (fun g => h (.inr (.inr g)))]; rfl
    have e2 : c2 = false := by rw [hc2, chN, decide_eq_false (fun g => h (.inr (.inr g)))]
    have e3 : c3 = false := by rw [hc3, chO, decide_eq_false (fun g => h (.inr (g.imp id fun g => ⟨g.1, g.2.1, g.2.2.1⟩)))]
    have e4 : c4 = 154 := by rw [hc4, chE, if_neg h]
    rw [e1, e2, e3, e4] at hk; exact hk
  have i0 : ints .u64 x := by rw [hx]; exact ints_w4 _
  have lit : ∀ m : Nat, m < 18446744073709551616 → ints .u64 [Value.int .u64 (m : Int), .int .u64 0, .int .u64 0, .int .u64 0] ∧ ar.eqv x [Value.int .u64 (m : Int), .int .u64 0, .int .u64 0, .int .u64 0] = decide (n = m) := fun m hm => by
    rw [← w4_small hm]
    exact ⟨ints_w4 _, by rw [eqvIs har, hx]; exact eqVals_w4 hn (by unfold M256; omega)⟩
  have l27 := lit 27 (by omega)
  have l28 := lit 28 (by omega)
  rw [show ((27 : Nat) : Int) = 27 from rfl] at l27
  rw [show ((28 : Nat) : Int) = 28 from rfl] at l28
  obtain ⟨d, hd⟩ : ∃ d, d = (n + M256 - 35) % M256 := ⟨_, rfl⟩
  obtain ⟨y, hy⟩ : ∃ y, y = w4 d := ⟨_, rfl⟩
  obtain ⟨b, hb⟩ : ∃ b : Int, b = ((if n < 35 then 1 else 0 : Nat) : Int) := ⟨_, rfl⟩
  have hb' : (n < 35 ∧ b = 1) ∨ (35 ≤ n ∧ b = 0) := by
    rw [hb]; split
    · exact .inl ⟨by omega, rfl⟩
    · exact .inr ⟨by omega, rfl⟩
  have hdn : 35 ≤ n → d = n - 35 := fun h => by rw [hd, show n + M256 - 35 = n - 35 + M256 by omega, Nat.add_mod_right, Nat.mod_eq_of_lt (Nat.lt_of_le_of_lt (Nat.sub_le _ _) hn)]
  have hdl : d < M256 := by rw [hd]; exact Nat.mod_lt _ (by omega)
  have hw35 : [PR.a [PS.r 4 x], PR.a [PS.r 4 [Value.int .u64 35, .int .u64 0, .int .u64 0, .int .u64 0]]] = [pw n, pw 35] := by
    unfold pw; rw [hx, w4_small (n := 35) (by omega)]; rfl
  have hres : [pw d, PR.s (.v (.int .u64 ((if n < 35 then 1 else 0 : Nat) : Int)))] = [PR.a [PS.r 4 y], PR.s (.v (.int .u64 b))] := by unfold pw; rw [hy, hb]
  have callSub : ∀ (Γ : Ctx) (d' : Nat) (k : List PR → Prop) (R : Prop), Γ = ctx Try.prog d' → k [.a [.r 4 y], .s (.v (.int .u64 b))] → Γ.g 35 [PR.a [PS.r 4 x], PR.a [PS.r 4 [Value.int .u64 35, .int .u64 0, .int .u64 0, .int .u64 0]]] k ∨ R := fun Γ d' k R hΓ hk => call_by hΓ refSub_sound ⟨n, 35, hw35, hn, by unfold M256; omega, by rw [← hd, hres]; exact hk⟩
  clear hd hres hw35 hb
  unfold pw
  rw [← hx]
  conv => cbv
  refine ⟨fun _ => ⟨i0, l27.1⟩, fun h1 => ?_, fun h1 => ?_⟩
  · have g1 : n = 27 := by
      have h2 : ar.eqv x [Value.int .u64 27, .int .u64 0, .int .u64 0, .int .u64 0] = true := h1
      rw [l27.2] at h2; simpa using h2
    have e1 : c1 = 0 := by rw [hc1, chC, if_neg (by omega)]; rfl
    have e2 : c2 = false := by rw [hc2, chN, decide_eq_false (by omega)]
    have e3 : c3 = false := by rw [hc3, chO, decide_eq_false (by omega)]
    have e4 : c4 = 0 := by rw [hc4, chE, if_pos (by omega)]
    rw [e1, e2, e3, e4] at hk
    conv => cbv
    exact hk
  · have g1 : n ≠ 27 := by
      have h2 : ar.eqv x [Value.int .u64 27, .int .u64 0, .int .u64 0, .int .u64 0] = false := h1
      rw [l27.2] at h2; simpa using h2
    conv => cbv
    refine ⟨fun _ => ⟨i0, l28.1⟩, fun h1 => ?_, fun h1 => ?_⟩
    · have g1 : n = 28 := by
        have h2 : ar.eqv x [Value.int .u64 28, .int .u64 0, .int .u64 0, .int .u64 0] = true := h1
        rw [l28.2] at h2; simpa using h2
      have e1 : c1 = 0 := by rw [hc1, chC, if_neg (by omega)]; rfl
      have e2 : c2 = false := by rw [hc2, chN, decide_eq_false (by omega)]
      have e3 : c3 = true := by rw [hc3, chO, decide_eq_true (by omega)]
      have e4 : c4 = 0 := by rw [hc4, chE, if_pos (by omega)]
      rw [e1, e2, e3, e4] at hk
      conv => cbv
      exact hk
    · have g2 : n ≠ 28 := by
        have h2 : ar.eqv x [Value.int .u64 28, .int .u64 0, .int .u64 0, .int .u64 0] = false := h1
        rw [l28.2] at h2; simpa using h2
      obtain ⟨y0, hy0⟩ : ∃ z : Int, z = ((d % 18446744073709551616 : Nat) : Int) := ⟨_, rfl⟩
      obtain ⟨yl, hyl⟩ : ∃ l, l = (w4 d).tail := ⟨_, rfl⟩
      have hyc : y = .int .u64 y0 :: yl := by rw [hy, hy0, hyl]; rfl
      have hy1 : yl.length = 3 := by rw [hyl]; rfl
      obtain ⟨y1, y2, y3, hyl3⟩ : ∃ y1 y2 y3, yl = [y1, y2, y3] := by
        match yl, hy1 with
        | [a, b, c], _ => exact ⟨a, b, c, rfl⟩
      have hyr : [PR.a [PS.r 4 [Value.int .u64 y0, y1, y2, y3]], PR.s (.v (.int .i64 1))] = [pw d, PR.s (.v (.int .i64 1))] := by unfold pw; rw [← hy, hyc, hyl3]
      obtain ⟨z, hz⟩ : ∃ z, z = w4 (d / 2) := ⟨_, rfl⟩
      obtain ⟨sw, hsw⟩ : ∃ s, s = smallW (d / 2) := ⟨_, rfl⟩
      obtain ⟨se, hse⟩ : ∃ s, s = smallE (d / 2) := ⟨_, rfl⟩
      have callShr : ∀ (Γ : Ctx) (d' : Nat) (k : List PR → Prop) (R : Prop), Γ = ctx Try.prog d' → k [.a [.r 4 z]] → Γ.g 37 [PR.a [PS.r 4 [Value.int .u64 y0, y1, y2, y3]], PR.s (.v (.int .i64 1))] k ∨ R := fun Γ d' k R hΓ hk => call_by hΓ refShr1_sound ⟨d, hyr, hdl, by unfold pw; rw [← hz]; exact hk⟩
      have callSmall : ∀ (Γ : Ctx) (d' : Nat) (k : List PR → Prop) (R : Prop), Γ = ctx Try.prog d' → k [.s (.v (.int .u64 sw)), .s (.v (.int .i64 se))] → Γ.g 36 [PR.a [PS.r 4 z]] k ∨ R := fun Γ d' k R hΓ hk => call_by hΓ refSmall_sound ⟨d / 2, by unfold pw; rw [← hz], Nat.lt_of_le_of_lt (Nat.div_le_self _ _) hdl, by rw [← hsw, ← hse]; exact hk⟩
      rw [hyc, hyl3] at callSub
      have hsw' : (d / 2 < 18446744073709551616 ∧ sw = ((d / 2 : Nat) : Int) ∧ se = 0) ∨ (18446744073709551616 ≤ d / 2 ∧ sw = 0 ∧ se = 11) := by
        rw [hsw, hse, smallW, smallE]
        by_cases h : d / 2 < 18446744073709551616
        · rw [if_pos h, if_pos h]; exact .inl ⟨h, rfl, rfl⟩
        · rw [if_neg h, if_neg h]; exact .inr ⟨by omega, rfl, rfl⟩
      have hpar : ∀ b : Bool, b = ar.cb .eql (ar.ib .rem .u64 y0 2) 1 → b = decide (d % 2 = 1) := fun b hb => by
        rw [hb, cIs har, hy0, show (2 : Int) = ((2 : Nat) : Int) from rfl, iRem har]
        show decide (((_ : Nat) : Int) = ((1 : Nat) : Int)) = _
        rw [decide_eq_decide]; omega
      clear hsw hse hy0 hyc hyr hyl hz hy
      conv => cbv
      refine callSub _ _ _ _ hΓ ?_
      conv => cbv
      refine ⟨fun h3 => ?_, fun h3 => ?_⟩
      · have g3 := cEq har h3
        conv => cbv
        exact fail (by omega)
      · have g3 := cNeq har h3
        have g4 : 35 ≤ n := by omega
        have hd2 := hdn g4
        obtain ⟨od, hod⟩ : ∃ b : Bool, b = ar.cb .eql (ar.ib .rem .u64 y0 2) 1 := ⟨_, rfl⟩
        have hod2 := hpar od hod
        conv => cbv
        refine callShr _ _ _ _ hΓ ?_
        conv => cbv
        refine callSmall _ _ _ _ hΓ ?_
        conv => cbv
        refine ⟨fun h4 => ?_, fun h4 => ?_⟩
        · have g5 := cNne har h4
          conv => cbv
          refine ⟨fun h5 => ?_, fun h5 => ?_⟩
          · have g6 := cNlt har h5
            conv => cbv
            refine ⟨fun h6 => ?_, fun h6 => ?_⟩
            · have g7 := cGt har h6
              conv => cbv
              exact fail (by omega)
            · have g7 := cNgt har h6
              have e1 : c1 = sw := by rw [hc1, chC, if_pos (by omega)]; omega
              have e2 : c2 = true := by rw [hc2, chN, decide_eq_true (by omega)]
              have e3 : c3 = od := by rw [hod2, hc3, chO, decide_eq_decide]; omega
              have e4 : c4 = 0 := by rw [hc4, chE, if_pos (by omega)]
              rw [e1, e2, e3, e4, hod] at hk
              conv => cbv
              exact hk
          · have g6 := cLt har h5
            conv => cbv
            exact fail (by omega)
        · have g5 := cNe har h4
          conv => cbv
          exact fail (by omega)

theorem txChains_sound : Sound Try.prog 3 fun args k => ∃ n : Nat, args = [pw n] ∧ n < M256 ∧ k [.s (.v (.bool true))] := by
  refine Sound.of_body tt_ok ent_ok Try.func3 rfl ?_
  rintro ar har Γ hΓ args k ⟨n, hargs, hn, hk⟩
  obtain ⟨x, hx⟩ : ∃ x, x = w4 n := ⟨_, rfl⟩
  obtain ⟨c1, hc1⟩ : ∃ x : Int, x = (chC n : Int) := ⟨_, rfl⟩
  obtain ⟨c2, hc2⟩ : ∃ x, x = chN n := ⟨_, rfl⟩
  obtain ⟨c3, hc3⟩ : ∃ x, x = chO n := ⟨_, rfl⟩
  obtain ⟨c4, hc4⟩ : ∃ x, x = chE n := ⟨_, rfl⟩
  unfold pw at hargs
  rw [← hx] at hargs
  subst hargs
  conv => cbv
  refine call_by hΓ txChain_sound ⟨n, by unfold pw; rw [hx], hn, ?_⟩
  rw [← hc1, ← hc2, ← hc3, ← hc4]
  conv => cbv
  refine call_by hΓ refChain_sound ⟨n, by unfold pw; rw [hx], hn, ?_⟩
  rw [← hc1, ← hc2, ← hc3, ← hc4]
  conv => cbv
  have e1 : ar.cb .eql c1 c1 = true := by rw [cIs har]; simp [intC]
  have e2 : ar.bb .eql c2 c2 = true := by rw [bbIs har]; simp
  have e3 : ar.bb .eql c3 c3 = true := by rw [bbIs har]; simp
  have e4 : ar.cb .eql c4 c4 = true := by rw [cIs har]; simp [intC]
  refine onT e1 ?_
  conv => cbv
  refine onT e2 ?_
  conv => cbv
  refine onT e3 ?_
  conv => cbv
  refine call_by hΓ num15_sound ⟨c4, rfl, ?_⟩
  conv => cbv
  have e5 : ar.cb .eql c4 c4 = true := e4
  rw [← e5] at hk
  exact hk
end Go.Eng
