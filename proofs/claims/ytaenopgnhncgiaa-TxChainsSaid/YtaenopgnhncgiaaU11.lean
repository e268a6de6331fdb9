/-
  tx.Chain tells the chain that a legacy V names; the reference tells the same; the law TxChains returns true. No condition.
-/
import Derived.Test.YtaenopgnhncgiaaU10
namespace Go.Eng
open Go Go.Proofs
set_option maxRecDepth 100000
set_option maxHeartbeats 2000000

/-- The chain, whether it is named, the parity, the error. -/
def chC (n : Nat) : Nat := if 35 ≤ n ∧ 1 ≤ (n - 35) / 2 ∧ (n - 35) / 2 ≤ 9223372036854775807 then (n - 35) / 2 else 0
def chN (n : Nat) : Bool := decide (35 ≤ n ∧ 1 ≤ (n - 35) / 2 ∧ (n - 35) / 2 ≤ 9223372036854775807)
def chO (n : Nat) : Bool := decide (n = 28 ∨ (35 ≤ n ∧ 1 ≤ (n - 35) / 2 ∧ (n - 35) / 2 ≤ 9223372036854775807 ∧ (n - 35) % 2 = 1))
def chE (n : Nat) : Int := if n = 27 ∨ n = 28 ∨ (35 ≤ n ∧ 1 ≤ (n - 35) / 2 ∧ (n - 35) / 2 ≤ 9223372036854775807) then 0 else 154

theorem w4_zero : w4 0 = [.int .u64 0, .int .u64 0, .int .u64 0, .int .u64 0] := rfl
theorem w4_small {n : Nat} (h : n < 18446744073709551616) : w4 n = [.int .u64 n, .int .u64 0, .int .u64 0, .int .u64 0] := by
  have := w4_v4 (a := n) (b := 0) (c := 0) (d := 0) h (by omega) (by omega) (by omega)
  simpa [v4] using this
theorem w4_head (n : Nat) : ∃ l, w4 n = .int .u64 ((n % 18446744073709551616 : Nat) : Int) :: l := ⟨_, rfl⟩

theorem txChain_sound : Sound Try.prog 9 fun args k => ∃ n : Nat, args = [pw n] ∧ n < M256 ∧ k [.s (.v (.int .u64 (chC n))), .s (.v (.bool (chN n))), .s (.v (.bool (chO n))), .s (.v (.int .i64 (chE n)))] := by
  refine Sound.of_body tt_ok ent_ok Try.func9 rfl ?_
  rintro ar har Γ hΓ args k ⟨n, rfl, hn, hk⟩
  obtain ⟨x, hx⟩ : ∃ x, x = w4 n := ⟨_, rfl⟩
  obtain ⟨x27, h27⟩ : ∃ x, x = w4 27 := ⟨_, rfl⟩
  obtain ⟨c1, hc1⟩ : ∃ x : Int, x = (chC n : Int) := ⟨_, rfl⟩
  obtain ⟨c2, hc2⟩ : ∃ x, x = chN n := ⟨_, rfl⟩
  obtain ⟨c3, hc3⟩ : ∃ x, x = chO n := ⟨_, rfl⟩
  obtain ⟨c4, hc4⟩ : ∃ x, x = chE n := ⟨_, rfl⟩
  rw [← hc1, ← hc2, ← hc3, ← hc4] at hk
  unfold pw
  rw [← hx]
  cbv
  obtain ⟨d, hd⟩ : ∃ d, d = (n + M256 - 27) % M256 := ⟨_, rfl⟩
  obtain ⟨y, hy⟩ : ∃ y, y = w4 d := ⟨_, rfl⟩
  obtain ⟨b, hb⟩ : ∃ b : Int, b = ((if n < 27 then 1 else 0 : Nat) : Int) := ⟨_, rfl⟩
  have callFrom : ∀ (Γ : Ctx) (d' : Nat) (k : List PR → Prop), Γ = ctx Try.prog d' → k [.a [.r 4 x27]] → Γ.g 32 [.s (.v (.int .u64 27))] k := fun Γ d' k hΓ hk => call_by' hΓ u256From_sound ⟨27, rfl, by omega, by unfold pw; rw [← h27]; exact hk⟩
  have callSub : ∀ (Γ : Ctx) (d' : Nat) (k : List PR → Prop), Γ = ctx Try.prog d' → k [.a [.r 4 y], .s (.v (.int .u64 b))] → Γ.g 31 [.a [.r 4 x], .a [.r 4 x27]] k := fun Γ d' k hΓ hk => call_by' hΓ u256Sub_sound ⟨n, 27, by rw [hx, h27], hn, by unfold M256; omega, by unfold pw; rw [← hd, ← hy, ← hb]; exact hk⟩
  obtain ⟨x35, h35⟩ : ∃ x, x = w4 35 := ⟨_, rfl⟩
  obtain ⟨d5, hd5⟩ : ∃ d, d = (n + M256 - 35) % M256 := ⟨_, rfl⟩
  obtain ⟨y5, hy5⟩ : ∃ y, y = w4 d5 := ⟨_, rfl⟩
  obtain ⟨b5, hb5⟩ : ∃ b : Int, b = ((if n < 35 then 1 else 0 : Nat) : Int) := ⟨_, rfl⟩
  have callFrom5 : ∀ (Γ : Ctx) (d' : Nat) (k : List PR → Prop), Γ = ctx Try.prog d' → k [.a [.r 4 x35]] → Γ.g 32 [.s (.v (.int .u64 35))] k := fun Γ d' k hΓ hk => call_by' hΓ u256From_sound ⟨35, rfl, by omega, by unfold pw; rw [← h35]; exact hk⟩
  have callSub5 : ∀ (Γ : Ctx) (d' : Nat) (k : List PR → Prop), Γ = ctx Try.prog d' → k [.a [.r 4 y5], .s (.v (.int .u64 b5))] → Γ.g 31 [.a [.r 4 x], .a [.r 4 x35]] k := fun Γ d' k hΓ hk => call_by' hΓ u256Sub_sound ⟨n, 35, by rw [hx, h35], hn, by unfold M256; omega, by unfold pw; rw [← hd5, ← hy5, ← hb5]; exact hk⟩
  have later : ∀ {P : Prop}, (n ≠ 27 ∧ n ≠ 28 → P) → (¬ (n = 27 ∨ n = 28)) → P := fun h g => h ⟨fun e => g (.inl e), fun e => g (.inr e)⟩
  refine ⟨Unit, fun _ => ⟨mk 55 [(1, .s (.ptr 0 0)), (2, .s (.lit .u64 0)), (3, .s (.bl false)), (4, .s (.bl false)), (5, .s (.lit .i64 0)), (6, .s (.ptr 1 0)), (7, .s (.p (.v (.int .u64 b))))], [.box [.r 4 x], .box [.r 4 y]]⟩, ?_, fun _ => ?_⟩
  · cbv
    refine ⟨callFrom _ _ _ hΓ ?_, ?_⟩
    · cbv
      refine ⟨callSub _ _ _ hΓ ?_, ?_⟩
      · cbv
        exact ⟨(), by cbv; simp⟩
      · cbv
        refine callSub _ _ _ hΓ ?_
        cbv
        exact ⟨(), by cbv; simp⟩
    · cbv
      refine callFrom _ _ _ hΓ ?_
      cbv
      refine callSub _ _ _ hΓ ?_
      cbv
      exact ⟨(), by cbv; simp⟩
  · cbv
    have hb' : (n < 27 ∧ b = 1) ∨ (27 ≤ n ∧ b = 0) := by
      rw [hb]; split
      · exact .inl ⟨by omega, rfl⟩
      · exact .inr ⟨by omega, rfl⟩
    have hb5' : (n < 35 ∧ b5 = 1) ∨ (35 ≤ n ∧ b5 = 0) := by
      rw [hb5]; split
      · exact .inl ⟨by omega, rfl⟩
      · exact .inr ⟨by omega, rfl⟩
    have hdn : 27 ≤ n → d = n - 27 := fun h => by rw [hd, show n + M256 - 27 = n - 27 + M256 by omega, Nat.add_mod_right, Nat.mod_eq_of_lt (Nat.lt_of_le_of_lt (Nat.sub_le _ _) hn)]
    have hdn5 : 35 ≤ n → d5 = n - 35 := fun h => by rw [hd5, show n + M256 - 35 = n - 35 + M256 by omega, Nat.add_mod_right, Nat.mod_eq_of_lt (Nat.lt_of_le_of_lt (Nat.sub_le _ _) hn)]
    have hdl : d < M256 := by rw [hd]; exact Nat.mod_lt _ (by omega)
    have hdl5 : d5 < M256 := by rw [hd5]; exact Nat.mod_lt _ (by omega)
    clear hd hd5
    have fail : ¬ (n = 27 ∨ n = 28 ∨ (35 ≤ n ∧ 1 ≤ (n - 35) / 2 ∧ (n - 35) / 2 ≤ 9223372036854775807)) → k [.s (.v (.int .u64 0)), .s (.v (.bool false)), .s (.v (.bool false)), .s (.v (.int .i64 154))] := fun h => by
      have e1 : c1 = 0 := by rw [hc1, chC, if_neg (fun g => h (.inr (.inr g)))]; rfl
      have e2 : c2 = false := by rw [hc2, chN, decide_eq_false (fun g => h (.inr (.inr g)))]
      have e3 : c3 = false := by rw [hc3, chO, decide_eq_false (fun g => h (.inr (g.imp id fun g => ⟨g.1, g.2.1, g.2.2.1⟩)))]
      have e4 : c4 = 154 := by rw [hc4, chE, if_neg h]
      rw [e1, e2, e3, e4] at hk; exact hk
    refine ⟨by rw [har]; kernel_rfl, fun h1 => ?_, fun h1 => ?_⟩
    · have g1 : 27 ≤ n := by have := cEq har h1; omega
      obtain ⟨x1, hx1⟩ : ∃ x, x = w4 1 := ⟨_, rfl⟩
      obtain ⟨m, hm⟩ : ∃ m : Int, m = cmpN d 1 := ⟨_, rfl⟩
      have hm' : (d ≤ 1 ∧ m ≤ 0) ∨ (1 < d ∧ m = 1) := by
        rw [hm, cmpN]; split
        · left; omega
        · split
          · left; omega
          · right; omega
      have hd1 := hdn g1
      cbv
      refine call_by' hΓ u256From_sound ⟨1, rfl, by omega, ?_⟩
      unfold pw
      rw [← hx1]
      cbv
      refine call_by' hΓ u256Cmp_sound ⟨d, 1, by rw [hy, hx1], hdl, by unfold M256; omega, ?_⟩
      rw [← hm]
      cbv
      refine ⟨fun h2 => ?_, fun h2 => ?_⟩
      · have g2 := cLe har h2
        have g3 : d ≤ 1 := by omega
        have hyd : y = [.int .u64 (d : Int), .int .u64 0, .int .u64 0, .int .u64 0] := by rw [hy]; exact w4_small (by omega)
        obtain ⟨di, hdi⟩ : ∃ z : Int, z = d := ⟨_, rfl⟩
        rw [← hdi] at hyd
        rw [hyd]
        cbv
        refine ⟨by rw [har]; kernel_rfl, ?_⟩
        have e1 : c1 = 0 := by rw [hc1, chC, if_neg (by omega)]; rfl
        have e2 : c2 = false := by rw [hc2, chN, decide_eq_false (by omega)]
        have e3 : c3 = ar.cb .eql di 1 := by
          rw [cIs har, hc3, chO, hdi]
          show _ = decide ((d : Int) = 1)
          rw [decide_eq_decide]; omega
        have e4 : c4 = 0 := by rw [hc4, chE, if_pos (by omega)]
        rw [e1, e2, e3, e4] at hk
        exact hk
      · have g2 := cNle har h2
        have g3 : 28 < n := by omega
        cbv
        refine ⟨Unit, fun _ => ⟨mk 55 [(1, .s (.ptr 0 0)), (2, .s (.lit .u64 0)), (3, .s (.bl false)), (4, .s (.bl false)), (5, .s (.lit .i64 0)), (8, .s (.ptr 2 0)), (9, .s (.p (.v (.int .u64 b5))))], [.box [.r 4 x], .gone, .box [.r 4 y5]]⟩, ?_, fun _ => ?_⟩
        · cbv
          refine ⟨callFrom5 _ _ _ hΓ ?_, ?_⟩
          · cbv
            refine ⟨callSub5 _ _ _ hΓ ?_, ?_⟩
            · cbv
              exact ⟨(), by cbv; simp⟩
            · cbv
              refine callSub5 _ _ _ hΓ ?_
              cbv
              exact ⟨(), by cbv; simp⟩
          · cbv
            refine callFrom5 _ _ _ hΓ ?_
            cbv
            refine callSub5 _ _ _ hΓ ?_
            cbv
            exact ⟨(), by cbv; simp⟩
        · cbv
          refine call_by hΓ u256Shr1_sound ⟨d5, by rw [hy5], hdl5, ?_⟩
          obtain ⟨yh, hyh⟩ : ∃ y, y = w4 (d5 / 2) := ⟨_, rfl⟩
          unfold pw
          rw [← hyh]
          cbv
          refine ⟨by rw [har]; kernel_rfl, fun h3 => ?_, fun h3 => ?_⟩
          · have g4 : 35 ≤ n := by have := cNeq har h3; omega
            have hd2 := hdn5 g4
            have hz4 := w4_zero
            obtain ⟨zz, hzz⟩ : ∃ z, z = [Value.int .u64 0, .int .u64 0, .int .u64 0, .int .u64 0] := ⟨_, rfl⟩
            have heq : ar.eqv yh [Value.int .u64 0, .int .u64 0, .int .u64 0, .int .u64 0] = decide (d5 / 2 = 0) := by
              rw [eqvIs har, hyh, ← w4_zero]
              exact eqVals_w4 (Nat.lt_of_le_of_lt (Nat.div_le_self _ _) hdl5) (by unfold M256; omega)
            have i1 : ints .u64 yh := by rw [hyh]; exact ints_w4 _
            have i2 : ints .u64 [Value.int .u64 0, .int .u64 0, .int .u64 0, .int .u64 0] := by rw [← w4_zero]; exact ints_w4 _
            cbv
            refine ⟨fun _ => ⟨i1, i2⟩, fun h4 => ?_, fun h4 => ?_⟩
            · have g5 : d5 / 2 ≠ 0 := by
                have h5 : ar.eqv yh [Value.int .u64 0, .int .u64 0, .int .u64 0, .int .u64 0] = false := h4
                rw [heq] at h5; simpa using h5
              obtain ⟨xm, hxm⟩ : ∃ x, x = w4 9223372036854775807 := ⟨_, rfl⟩
              obtain ⟨m2, hm2⟩ : ∃ m : Int, m = cmpN (d5 / 2) 9223372036854775807 := ⟨_, rfl⟩
              have hm2' : (d5 / 2 ≤ 9223372036854775807 ∧ m2 ≤ 0) ∨ (9223372036854775807 < d5 / 2 ∧ m2 = 1) := by
                rw [hm2, cmpN]; split
                · left; omega
                · split
                  · left; omega
                  · right; omega
              cbv
              refine call_by' hΓ u256From_sound ⟨9223372036854775807, rfl, by omega, ?_⟩
              unfold pw
              rw [← hxm]
              cbv
              refine call_by' hΓ u256Cmp_sound ⟨d5 / 2, 9223372036854775807, by rw [hyh, hxm], Nat.lt_of_le_of_lt (Nat.div_le_self _ _) hdl5, by unfold M256; omega, ?_⟩
              rw [← hm2]
              cbv
              refine ⟨fun h6 => ?_, fun h6 => ?_⟩
              · have g6 := cGt har h6
                cbv
                exact fail (by omega)
              · have g6 := cNgt har h6
                have g7 : d5 / 2 ≤ 9223372036854775807 := by omega
                have hy5w := w4_head d5
                have hyhw : yh = [.int .u64 ((d5 / 2 : Nat) : Int), .int .u64 0, .int .u64 0, .int .u64 0] := by rw [hyh]; exact w4_small (by omega)
                have hy5s : y5 = [.int .u64 ((d5 % 18446744073709551616 : Nat) : Int), .int .u64 ((d5 / 18446744073709551616 : Nat) : Int), .int .u64 0, .int .u64 0] := by
                  have := w4_v4 (a := d5 % 18446744073709551616) (b := d5 / 18446744073709551616) (c := 0) (d := 0) (by omega) (by omega) (by omega) (by omega)
                  have e : v4 (d5 % 18446744073709551616) (d5 / 18446744073709551616) 0 0 = d5 := by unfold v4; omega
                  rw [e] at this
                  rw [hy5]; exact this
                obtain ⟨u0, hu0⟩ : ∃ z : Int, z = ((d5 / 2 : Nat) : Int) := ⟨_, rfl⟩
                obtain ⟨u1, hu1⟩ : ∃ z : Int, z = ((d5 % 18446744073709551616 : Nat) : Int) := ⟨_, rfl⟩
                obtain ⟨u2, hu2⟩ : ∃ z : Int, z = ((d5 / 18446744073709551616 : Nat) : Int) := ⟨_, rfl⟩
                rw [← hu0] at hyhw
                rw [← hu1, ← hu2] at hy5s
                rw [hyhw, hy5s]
                have e1 : c1 = u0 := by rw [hc1, chC, if_pos (by omega), hu0, hd2]
                have e2 : c2 = true := by rw [hc2, chN, decide_eq_true (by omega)]
                have e3 : c3 = ar.cb .eql (ar.ib .and .u64 u1 1) 1 := by
                  rw [cIs har, iIs har, hc3, chO, hu1, show (1 : Int) = ((1 : Nat) : Int) from rfl, ib_and64 (Nat.mod_lt _ (by omega)) (by omega), Nat.and_one_is_mod]
                  show _ = decide (((_ : Nat) : Int) = ((1 : Nat) : Int))
                  rw [decide_eq_decide]; omega
                have e4 : c4 = 0 := by rw [hc4, chE, if_pos (by omega)]
                rw [e1, e2, e3, e4] at hk
                cbv
                refine ⟨by rw [har]; kernel_rfl, ?_⟩
                exact hk
            · have g5 : d5 / 2 = 0 := by
                have h5 : ar.eqv yh [Value.int .u64 0, .int .u64 0, .int .u64 0, .int .u64 0] = true := h4
                rw [heq] at h5; simpa using h5
              cbv
              exact fail (by omega)
          · have g4 : n < 35 := by have := cEq har h3; omega
            cbv
            exact fail (by omega)
    · have g1 : n < 27 := by have := cNeq har h1; omega
      cbv
      refine ⟨Unit, fun _ => ⟨mk 55 [(1, .s (.ptr 0 0)), (2, .s (.lit .u64 0)), (3, .s (.bl false)), (4, .s (.bl false)), (5, .s (.lit .i64 0)), (8, .s (.ptr 2 0)), (9, .s (.p (.v (.int .u64 b5))))], [.box [.r 4 x], .gone, .box [.r 4 y5]]⟩, ?_, fun _ => ?_⟩
      · cbv
        refine ⟨callFrom5 _ _ _ hΓ ?_, ?_⟩
        · cbv
          refine ⟨callSub5 _ _ _ hΓ ?_, ?_⟩
          · cbv
            exact ⟨(), by cbv; simp⟩
          · cbv
            refine callSub5 _ _ _ hΓ ?_
            cbv
            exact ⟨(), by cbv; simp⟩
        · cbv
          refine callFrom5 _ _ _ hΓ ?_
          cbv
          refine callSub5 _ _ _ hΓ ?_
          cbv
          exact ⟨(), by cbv; simp⟩
      · cbv
        refine call_by hΓ u256Shr1_sound ⟨d5, by rw [hy5], hdl5, ?_⟩
        obtain ⟨yh, hyh⟩ : ∃ y, y = w4 (d5 / 2) := ⟨_, rfl⟩
        unfold pw
        rw [← hyh]
        cbv
        refine ⟨by rw [har]; kernel_rfl, fun h3 => ?_, fun h3 => ?_⟩
        · exact absurd (cNeq har h3) (by omega)
        · cbv
          exact fail (by omega)
end Go.Eng
