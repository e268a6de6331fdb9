/-
  rlp.cut: the head of the first item. Conditions: bytes in their range, sizes up to 2^40.
  Decoding as plain data: what the items in bytes are; what a reader with a stack of open lists goes on to tell. No program in sight.
-/
import Derived.Test.YtejelaaocjfjbaaRC
namespace Go.Eng
open Go Go.Proofs
set_option linter.unusedSectionVars false
set_option maxRecDepth 100000
set_option maxHeartbeats 4000000
set_option linter.unusedVariables false

def cutF (l : Bool) (n : Nat) (b : List Int) : Bool × List Int × List Int × Int :=
  if b.length < n then (false, [], [], 70)
  else if l = false ∧ n = 1 ∧ b.getD 0 0 < 128 then (false, [], [], 71)
  else (l, b.take n, b.drop n, 0)

def cutL (l : Bool) (n : Nat) (b : List Int) : Bool × List Int × List Int × Int :=
  if 55 < n then
    if b.length < n - 55 then (false, [], [], 70)
    else if b.getD 0 0 = 0 ∨ bev (b.take (n - 55)) ≤ 55 then (false, [], [], 72)
    else if (b.drop (n - 55)).length < bev (b.take (n - 55)) then (false, [], [], 70)
    else cutF l (bev (b.take (n - 55))) (b.drop (n - 55))
  else cutF l n b

/-- The head of the first item: a list?, what it holds, what stands behind it, the error. -/
def cutR : List Int → Bool × List Int × List Int × Int
  | [] => (false, [], [], 70)
  | c :: b => if c < 128 then (false, [c], b, 0) else if 192 ≤ c then cutL true (c - 192).toNat b else cutL false (c - 128).toNat b

theorem cmpN_le {n m : Nat} (h : cmpN n m ≤ 0) : n ≤ m := by
  unfold cmpN at h; split at h <;> (try split at h) <;> omega
theorem cmpN_gt {n m : Nat} (h : 0 < cmpN n m) : m < n := by
  unfold cmpN at h; split at h <;> (try split at h) <;> omega

theorem cut_sound : Sound Try.prog 39 fun args k => ∃ (d : List Int) (sd : List (List PS)), args = [.s (.sl (d.map b8) sd)] ∧ bytesOk d ∧ d.length ≤ 2 ^ 40 ∧ (∀ z ∈ sd, rlen z = 1) ∧
    ∀ sp sr : List (List PS), (∀ z ∈ sp, rlen z = 1) → (∀ z ∈ sr, rlen z = 1) → k [.s (.v (.bool (cutR d).1)), .s (.sl ((cutR d).2.1.map b8) sp), .s (.sl ((cutR d).2.2.1.map b8) sr), .s (.v (.int .i64 (cutR d).2.2.2))] := by
  refine Sound.of_body tt_ok ent_ok Try.func39 rfl ?_
  rintro ar har Γ hΓ args k ⟨d, sd, hargs, hok, hl, hsd, hk⟩
  obtain ⟨D, hD⟩ : ∃ D, D = d.map b8 := ⟨_, rfl⟩
  have hDl : ar.len D = (d.length : Int) := by rw [lenIs har, hD, List.length_map]
  have hDy : ∀ z ∈ D, rlen z = 1 := by rw [hD]; exact b8_all _
  have hDn : D.length = d.length := by rw [hD, List.length_map]
  rw [← hD] at hargs
  have hcat : catS ar D sd = D ++ sd := by rw [har]; exact catS_eq _ _
  conv at hcat => lhs; cbv
  cases d with
  | nil =>
    have hk := hk [] [] (by simp) (by simp)
    have h0 : ar.cb .eql (ar.len D) 0 = true := dEq har (by rw [hDl]; rfl)
    subst hargs
    conv => cbv
    refine onT h0 ?_
    conv => cbv
    exact hk
  | cons c b =>
    have h0 : ar.cb .eql (ar.len D) 0 = false := dNeq har (by rw [hDl, List.length_cons]; omega)
    have rb : D[(0 : Int).toNat]? = some [.c (.v (.int .u8 c))] := by rw [hD]; rfl
    have hb0 : (0 : Int) ≤ 0 := Int.le_refl 0
    have hcr := hok c (by simp)
    have hbok : bytesOk b := fun x hx => hok x (by simp [hx])
    rw [List.length_cons] at hDl hDn hl
    have hdr : D.drop 1 = b.map b8 := by rw [hD]; rfl
    subst hargs
    conv => cbv
    refine onF h0 ?_
    conv => cbv
    refine ⟨_, hb0, rb, rfl, ?_⟩
    conv => cbv
    refine ⟨fun h => ?_, fun h => ?_⟩
    · have g := cLt har (a := c) (b := 128) h
      have e1 : ar.mid (D ++ sd) 0 1 = [c].map b8 := by rw [midIs har, List.drop_zero, List.take_append_of_le_length (by omega), hD]; rfl
      have e2 : ar.frm (D ++ sd) 1 = D.drop 1 ++ sd := by rw [frmIs har, List.drop_append_of_le_length (by omega)]
      have e3 : ar.frm D 1 = b.map b8 := by rw [frmIs har, hdr]
      have e4 : ∀ z ∈ ar.frm (D ++ sd) 1, rlen z = 1 := by
        rw [e2, hdr]; intro z hz
        rcases List.mem_append.1 hz with hz | hz
        · exact b8_all _ z hz
        · exact hsd z hz
      have hk := hk (ar.frm (D ++ sd) 1) sd e4 hsd
      simp only [cutR, if_pos g] at hk
      rw [← e1, ← e3] at hk
      have s1 : (0 : Int) ≤ 1 ∧ (1 : Int) ≤ ((D.length + sd.length : Nat) : Int) := by omega
      have s2 : (0 : Int) ≤ 1 ∧ (1 : Int) ≤ (D.length : Int) ∧ (∀ z ∈ D, rlen z = 1) ∧ ∀ z ∈ sd, rlen z = 1 := ⟨by omega, by omega, hDy, hsd⟩
      conv => cbv
      refine ⟨by rw [har]; kernel_rfl, ?_⟩
      rw [hcat]
      exact ⟨fun _ => s1, fun _ => s2, hk⟩
    · have g := cNlt har (a := c) (b := 128) h
      have s2 : (0 : Int) ≤ 1 ∧ (1 : Int) ≤ (D.length : Int) ∧ (∀ z ∈ D, rlen z = 1) ∧ ∀ z ∈ sd, rlen z = 1 := ⟨by omega, by omega, hDy, hsd⟩
      obtain ⟨D1, hD1⟩ : ∃ X, ar.frm D 1 = X := ⟨_, rfl⟩
      have hD1b : D1 = b.map b8 := by rw [← hD1, frmIs har, hdr]
      have hD1l : ar.len D1 = (b.length : Int) := by rw [lenIs har, hD1b, List.length_map]
      have hD1n : D1.length = b.length := by rw [hD1b, List.length_map]
      have hD1y : ∀ z ∈ D1, rlen z = 1 := by rw [hD1b]; exact b8_all _
      obtain ⟨X, hX⟩ : ∃ X, D1 ++ sd = X := ⟨_, rfl⟩
      have hcat1 : catS ar D1 sd = X := by rw [har, ← hX]; exact catS_eq _ _
      conv at hcat1 => lhs; cbv
      conv at hD1 => lhs; cbv
      conv => cbv
      refine ⟨fun h => ?_, fun h => ?_⟩
      · have g2 := cGe har (a := c) (b := 192) h
        obtain ⟨n, hn⟩ : ∃ n, n = (c - 192).toNat := ⟨_, rfl⟩
        obtain ⟨N, hN⟩ : ∃ N, ar.cv .i64 (ar.ib .sub .u8 c 192) = N := ⟨_, rfl⟩
        have hNn : N = (n : Int) := by rw [← hN, iIs har, show intB .sub .u8 c 192 = IntKind.u8.wrap (c - 192) from rfl, u8Wrap, cvI64 har (by omega), hn]; omega
        have hn63 : n ≤ 63 := by omega
        have hk : ∀ sp sr : List (List PS), (∀ z ∈ sp, rlen z = 1) → (∀ z ∈ sr, rlen z = 1) → k [.s (.v (.bool (cutL true n b).1)), .s (.sl ((cutL true n b).2.1.map b8) sp), .s (.sl ((cutL true n b).2.2.1.map b8) sr), .s (.v (.int .i64 (cutL true n b).2.2.2))] := by
          have e : cutR (c :: b) = cutL true n b := by rw [hn]; simp only [cutR, if_neg (Int.not_lt.2 g), if_pos g2]
          rw [e] at hk; exact hk
        conv at hN => lhs; cbv
        have nL : ar.nb true = false := by rw [har]; rfl
        rw [h]
        conv => cbv
        refine ⟨fun _ => s2, ?_⟩
        rw [hD1, hN]
        refine ⟨fun h => ?_, fun h => ?_⟩
        · have g3 := cGt har (a := N) (b := 55) h
          have hn55 : 55 < n := by omega
          obtain ⟨q, hq⟩ : ∃ q, q = n - 55 := ⟨_, rfl⟩
          obtain ⟨Q, hQ⟩ : ∃ Q, ar.ib .sub .i64 N 55 = Q := ⟨_, rfl⟩
          have hQq : Q = (q : Int) := by rw [← hQ, iSub har (by omega)]; omega
          have hq8 : 1 ≤ q ∧ q ≤ 8 := by omega
          conv at hQ => lhs; cbv
          simp only [cutL, if_pos hn55, ← hq] at hk
          conv => cbv
          rw [hQ]
          refine ⟨fun h => ?_, fun h => ?_⟩
          · have g4 := cLt har (a := ar.len D1) (b := Q) h
            have hk := hk [] [] (by simp) (by simp)
            rw [if_pos (by omega)] at hk
            conv => cbv
            exact hk
          · have g4 := cNlt har (a := ar.len D1) (b := Q) h
            have hqb : q ≤ b.length := by omega
            simp only [if_neg (Nat.not_lt.2 hqb)] at hk
            have hnQ : ar.nat Q = q := natOf har hQq
            obtain ⟨T, hT⟩ : ∃ T, ar.mid X 0 (ar.nat Q) = T := ⟨_, rfl⟩
            have hTt : T = (b.take q).map b8 := by rw [← hT, hnQ, midIs har, ← hX, List.drop_zero, List.take_append_of_le_length (by omega), hD1b, List.map_take]
            obtain ⟨v, hv⟩ : ∃ v, v = bev (b.take q) := ⟨_, rfl⟩
            have hvlt : v < 2 ^ 64 := by
              have h1 := bev_lt (l := b.take q) fun x hx => hbok x (List.mem_of_mem_take hx)
              rw [List.length_take, Nat.min_eq_left hqb, ← hv] at h1
              refine Nat.lt_of_lt_of_le h1 (Nat.le_trans (Nat.pow_le_pow_right (by omega) hq8.2) (by decide))
            rw [← hv] at hk
            obtain ⟨V, hV⟩ : ∃ V : Int, V = (v : Int) := ⟨_, rfl⟩
            have hw : w4 v = [.int .u64 V, .int .u64 0, .int .u64 0, .int .u64 0] := by
              have := w4_v4 (a := v) (b := 0) (c := 0) (d := 0) (by omega) (by omega) (by omega) (by omega)
              rw [hV]
              simpa [v4] using this
            have callG : ∀ (Γ : Ctx) (d' : Nat) (s : List (List PS)) (k : List PR → Prop) (R : Prop), Γ = ctx Try.prog d' → k [.a [.r 4 [.int .u64 V, .int .u64 0, .int .u64 0, .int .u64 0]], .s (.v (.int .i64 0))] → Γ.g 64 [.s (.sl T s)] k ∨ R := fun Γ d' s k R hΓ hk => call_by hΓ u256Get_sound ⟨b.take q, s, by rw [hTt], fun x hx => hbok x (List.mem_of_mem_take hx), by rw [List.length_take]; omega, by unfold pw; rw [← hv, hw]; exact hk⟩
            have sQ : (0 : Int) ≤ Q ∧ Q ≤ ((D1.length + sd.length : Nat) : Int) := by omega
            conv at hT => lhs; cbv
            conv => cbv
            rw [hcat1, hT]
            refine ⟨fun _ => sQ, ?_⟩
            refine callG _ _ _ _ _ hΓ ?_
            obtain ⟨b0, bt, hbb⟩ : ∃ b0 bt, b = b0 :: bt := by
              cases b with
              | nil => exact absurd hqb (by rw [List.length_nil]; omega)
              | cons b0 bt => exact ⟨b0, bt, rfl⟩
            have rb1 : D1[(0 : Int).toNat]? = some [.c (.v (.int .u8 b0))] := by rw [hD1b, hbb]; rfl
            conv => cbv
            refine ⟨by rw [har]; kernel_rfl, _, hb0, rb1, rfl, ?_⟩
            conv => cbv
            have hvM : v < M256 := Nat.lt_trans hvlt (by decide)
            obtain ⟨F, hF⟩ : ∃ F, F = w4 55 := ⟨_, rfl⟩
            obtain ⟨Z, hZ⟩ : ∃ Z : Int, Z = cmpN v 55 := ⟨_, rfl⟩
            have callF : ∀ (Γ : Ctx) (d' : Nat) (k : List PR → Prop), Γ = ctx Try.prog d' → k [.a [.r 4 F]] → Γ.g 33 [.s (.v (.int .u64 55))] k := fun Γ d' k hΓ hk => call_by' hΓ u256From_sound ⟨55, rfl, by omega, by unfold pw; rw [← hF]; exact hk⟩
            have callC : ∀ (Γ : Ctx) (d' : Nat) (k : List PR → Prop), Γ = ctx Try.prog d' → k [.s (.v (.int .i64 Z))] → Γ.g 32 [.a [.r 4 [.int .u64 V, .int .u64 0, .int .u64 0, .int .u64 0]], .a [.r 4 F]] k := fun Γ d' k hΓ hk => call_by' hΓ u256Cmp_sound ⟨v, 55, by unfold pw; rw [hw, hF], hvM, by decide, by rw [← hZ]; exact hk⟩
            have hgb : b.getD 0 0 = b0 := by rw [hbb]; rfl
            refine ⟨fun h => ?_, fun h => ?_⟩
            · have g5 := cNeq har (a := b0) (b := 0) h
              conv => cbv
              refine callF _ _ _ hΓ ?_
              conv => cbv
              refine callC _ _ _ hΓ ?_
              conv => cbv
              refine ⟨fun h => ?_, fun h => ?_⟩
              · have g6 := cLe har (a := Z) (b := 0) h
                have hv55 : v ≤ 55 := cmpN_le (hZ ▸ g6)
                have hk := hk [] [] (by simp) (by simp)
                rw [if_pos (.inr hv55)] at hk
                conv => cbv
                exact hk
              · have g6 := cNle har (a := Z) (b := 0) h
                have hv55 : 55 < v := cmpN_gt (hZ ▸ g6)
                rw [if_neg (show ¬ (b.getD 0 0 = 0 ∨ v ≤ 55) by rw [hgb]; omega)] at hk
                obtain ⟨b2, hb2⟩ : ∃ b2, b2 = b.drop q := ⟨_, rfl⟩
                rw [← hb2] at hk
                obtain ⟨D2, hD2⟩ : ∃ X, ar.frm D1 (ar.nat Q) = X := ⟨_, rfl⟩
                have hb2l : b2.length = b.length - q := by rw [hb2, List.length_drop]
                have hb2ok : bytesOk b2 := fun x hx => hbok x (by rw [hb2] at hx; exact List.mem_of_mem_drop hx)
                have hD2b : D2 = b2.map b8 := by rw [← hD2, hnQ, frmIs har, hD1b, hb2, List.map_drop]
                have hD2l : ar.len D2 = (b2.length : Int) := by rw [lenIs har, hD2b, List.length_map]
                have hD2n : D2.length = b2.length := by rw [hD2b, List.length_map]
                have hD2y : ∀ z ∈ D2, rlen z = 1 := by rw [hD2b]; exact b8_all _
                obtain ⟨Y, hY⟩ : ∃ X, D2 ++ sd = X := ⟨_, rfl⟩
                have hcat2 : catS ar D2 sd = Y := by rw [har, ← hY]; exact catS_eq _ _
                have sQ2 : (0 : Int) ≤ Q ∧ Q ≤ (D1.length : Int) ∧ (∀ z ∈ D1, rlen z = 1) ∧ ∀ z ∈ sd, rlen z = 1 := ⟨by omega, by omega, hD1y, hsd⟩
                obtain ⟨G, hG⟩ : ∃ F, F = w4 b2.length := ⟨_, rfl⟩
                obtain ⟨Z2, hZ2⟩ : ∃ Z : Int, Z = cmpN v b2.length := ⟨_, rfl⟩
                have hcv : ar.cv .u64 (ar.len D2) = (b2.length : Int) := by rw [hD2l, cvU64 har (by omega)]
                have callF2 : ∀ (Γ : Ctx) (d' : Nat) (k : List PR → Prop), Γ = ctx Try.prog d' → k [.a [.r 4 G]] → Γ.g 33 [.s (.v (.int .u64 (ar.cv .u64 (ar.len D2))))] k := fun Γ d' k hΓ hk => call_by' hΓ u256From_sound ⟨b2.length, by rw [hcv], by omega, by unfold pw; rw [← hG]; exact hk⟩
                have callC2 : ∀ (Γ : Ctx) (d' : Nat) (k : List PR → Prop), Γ = ctx Try.prog d' → k [.s (.v (.int .i64 Z2))] → Γ.g 32 [.a [.r 4 [.int .u64 V, .int .u64 0, .int .u64 0, .int .u64 0]], .a [.r 4 G]] k := fun Γ d' k hΓ hk => call_by' hΓ u256Cmp_sound ⟨v, b2.length, by unfold pw; rw [hw, hG], hvM, Nat.lt_of_le_of_lt (show b2.length ≤ 2 ^ 40 by omega) (by decide), by rw [← hZ2]; exact hk⟩
                conv at hD2 => lhs; cbv
                conv at hcat2 => lhs; cbv
                conv => cbv
                refine ⟨fun _ => sQ2, ?_⟩
                rw [hD2]
                refine ⟨by rw [har]; kernel_rfl, ?_⟩
                refine callF2 _ _ _ hΓ ?_
                conv => cbv
                refine callC2 _ _ _ hΓ ?_
                conv => cbv
                refine ⟨fun h => ?_, fun h => ?_⟩
                · have g7 := cGt har (a := Z2) (b := 0) h
                  have hvb : b2.length < v := cmpN_gt (hZ2 ▸ g7)
                  have hk := hk [] [] (by simp) (by simp)
                  rw [if_pos hvb] at hk
                  conv => cbv
                  exact hk
                · have g7 := cNgt har (a := Z2) (b := 0) h
                  have hvb : v ≤ b2.length := cmpN_le (hZ2 ▸ g7)
                  rw [if_neg (Nat.not_lt.2 hvb)] at hk
                  obtain ⟨P, hP⟩ : ∃ P, ar.cv .i64 V = P := ⟨_, rfl⟩
                  have hPv : P = (v : Int) := by rw [← hP, cvI64 har (by omega), hV]
                  conv at hP => lhs; cbv
                  conv => cbv
                  rw [hP]
                  have s12 : (0 : Int) ≤ P ∧ (P ≤ ((D2.length + sd.length : Nat) : Int) ∨ b2.length < v) := by omega
                  have hnat2 : ar.nat P = v := natOf har hPv
                  refine ⟨fun h => ?_, fun h => ?_⟩
                  · have g := cLt har (a := ar.len D2) (b := P) h
                    have hk := hk [] [] (by simp) (by simp)
                    simp only [cutF, if_pos (show b2.length < v by omega)] at hk
                    conv => cbv
                    exact hk
                  · have g := cNlt har (a := ar.len D2) (b := P) h
                    have hle : v ≤ b2.length := by omega
                    have s12 : (0 : Int) ≤ P ∧ P ≤ ((D2.length + sd.length : Nat) : Int) := by omega
                    have s22 : (0 : Int) ≤ P ∧ P ≤ (D2.length : Int) ∧ (∀ z ∈ D2, rlen z = 1) ∧ ∀ z ∈ sd, rlen z = 1 := ⟨by omega, by omega, hD2y, hsd⟩
                    rw [show cutF true v b2 = if true = false ∧ v = 1 ∧ b2.getD 0 0 < 128 then (false, [], [], 71) else (true, b2.take v, b2.drop v, 0) from by unfold cutF; rw [if_neg (Nat.not_lt.2 hle)]] at hk
                    have e1 : ar.mid Y 0 (ar.nat P) = (b2.take v).map b8 := by rw [hnat2, midIs har, ← hY, List.drop_zero, List.take_append_of_le_length (by omega), hD2b, List.map_take]
                    have e3 : ar.frm D2 (ar.nat P) = (b2.drop v).map b8 := by rw [hnat2, frmIs har, hD2b, List.map_drop]
                    have e4 : ∀ z ∈ ar.frm Y (ar.nat P), rlen z = 1 := by
                      rw [hnat2, frmIs har, ← hY, List.drop_append_of_le_length (by omega)]
                      intro z hz
                      rcases List.mem_append.1 hz with hz | hz
                      · exact hD2y z (List.mem_of_mem_drop hz)
                      · exact hsd z hz
                    have hkF : ¬ (true = false ∧ v = 1 ∧ b2.getD 0 0 < 128) → k [.s (.v (.bool true)), .s (.sl (ar.mid Y 0 (ar.nat P)) (ar.frm Y (ar.nat P))), .s (.sl (ar.frm D2 (ar.nat P)) sd), .s (.v (.int .i64 0))] := fun hc => by
                      have hk := hk (ar.frm Y (ar.nat P)) sd e4 hsd
                      rw [if_neg hc] at hk
                      rw [← e1, ← e3] at hk
                      exact hk
                    have hkE : (true = false ∧ v = 1 ∧ b2.getD 0 0 < 128) → k [.s (.v (.bool false)), .s (.sl [] []), .s (.sl [] []), .s (.v (.int .i64 71))] := fun hc => by
                      have hk := hk [] [] (by simp) (by simp)
                      rw [if_pos hc] at hk
                      exact hk
                    clear e1 e3 e4 hk
                    conv => cbv
                    refine onF nL ?_
                    conv => cbv
                    refine ⟨by rw [har]; kernel_rfl, ?_⟩
                    rw [hcat2]
                    exact ⟨fun _ => s12, fun _ => s22, hkF (by simp)⟩
            · have g5 := cEq har (a := b0) (b := 0) h
              have hk := hk [] [] (by simp) (by simp)
              rw [if_pos (.inl (by rw [hgb]; exact g5))] at hk
              conv => cbv
              exact hk
        · have g3 := cNgt har (a := N) (b := 55) h
          simp only [cutL, if_neg (show ¬ 55 < n by omega)] at hk
          conv => cbv
          try rw [hN]
          have s11 : (0 : Int) ≤ N ∧ (N ≤ ((D1.length + sd.length : Nat) : Int) ∨ b.length < n) := by omega
          have hnat1 : ar.nat N = n := natOf har hNn
          refine ⟨fun h => ?_, fun h => ?_⟩
          · have g := cLt har (a := ar.len D1) (b := N) h
            have hk := hk [] [] (by simp) (by simp)
            simp only [cutF, if_pos (show b.length < n by omega)] at hk
            conv => cbv
            exact hk
          · have g := cNlt har (a := ar.len D1) (b := N) h
            have hle : n ≤ b.length := by omega
            have s11 : (0 : Int) ≤ N ∧ N ≤ ((D1.length + sd.length : Nat) : Int) := by omega
            have s21 : (0 : Int) ≤ N ∧ N ≤ (D1.length : Int) ∧ (∀ z ∈ D1, rlen z = 1) ∧ ∀ z ∈ sd, rlen z = 1 := ⟨by omega, by omega, hD1y, hsd⟩
            rw [show cutF true n b = if true = false ∧ n = 1 ∧ b.getD 0 0 < 128 then (false, [], [], 71) else (true, b.take n, b.drop n, 0) from by unfold cutF; rw [if_neg (Nat.not_lt.2 hle)]] at hk
            have e1 : ar.mid X 0 (ar.nat N) = (b.take n).map b8 := by rw [hnat1, midIs har, ← hX, List.drop_zero, List.take_append_of_le_length (by omega), hD1b, List.map_take]
            have e3 : ar.frm D1 (ar.nat N) = (b.drop n).map b8 := by rw [hnat1, frmIs har, hD1b, List.map_drop]
            have e4 : ∀ z ∈ ar.frm X (ar.nat N), rlen z = 1 := by
              rw [hnat1, frmIs har, ← hX, List.drop_append_of_le_length (by omega)]
              intro z hz
              rcases List.mem_append.1 hz with hz | hz
              · exact hD1y z (List.mem_of_mem_drop hz)
              · exact hsd z hz
            have hkF : ¬ (true = false ∧ n = 1 ∧ b.getD 0 0 < 128) → k [.s (.v (.bool true)), .s (.sl (ar.mid X 0 (ar.nat N)) (ar.frm X (ar.nat N))), .s (.sl (ar.frm D1 (ar.nat N)) sd), .s (.v (.int .i64 0))] := fun hc => by
              have hk := hk (ar.frm X (ar.nat N)) sd e4 hsd
              rw [if_neg hc] at hk
              rw [← e1, ← e3] at hk
              exact hk
            have hkE : (true = false ∧ n = 1 ∧ b.getD 0 0 < 128) → k [.s (.v (.bool false)), .s (.sl [] []), .s (.sl [] []), .s (.v (.int .i64 71))] := fun hc => by
              have hk := hk [] [] (by simp) (by simp)
              rw [if_pos hc] at hk
              exact hk
            clear e1 e3 e4 hk
            conv => cbv
            refine onF nL ?_
            conv => cbv
            refine ⟨by rw [har]; kernel_rfl, ?_⟩
            rw [hcat1]
            exact ⟨fun _ => s11, fun _ => s21, hkF (by simp)⟩
      · have g2 := cNge har (a := c) (b := 192) h
        obtain ⟨n, hn⟩ : ∃ n, n = (c - 128).toNat := ⟨_, rfl⟩
        obtain ⟨N, hN⟩ : ∃ N, ar.cv .i64 (ar.ib .sub .u8 c 128) = N := ⟨_, rfl⟩
        have hNn : N = (n : Int) := by rw [← hN, iIs har, show intB .sub .u8 c 128 = IntKind.u8.wrap (c - 128) from rfl, u8Wrap, cvI64 har (by omega), hn]; omega
        have hn63 : n ≤ 63 := by omega
        have hk : ∀ sp sr : List (List PS), (∀ z ∈ sp, rlen z = 1) → (∀ z ∈ sr, rlen z = 1) → k [.s (.v (.bool (cutL false n b).1)), .s (.sl ((cutL false n b).2.1.map b8) sp), .s (.sl ((cutL false n b).2.2.1.map b8) sr), .s (.v (.int .i64 (cutL false n b).2.2.2))] := by
          have e : cutR (c :: b) = cutL false n b := by rw [hn]; simp only [cutR, if_neg (Int.not_lt.2 g), if_neg (Int.not_le.2 g2)]
          rw [e] at hk; exact hk
        conv at hN => lhs; cbv
        have nL : ar.nb false = true := by rw [har]; rfl
        rw [h]
        conv => cbv
        refine ⟨fun _ => s2, ?_⟩
        rw [hD1, hN]
        refine ⟨fun h => ?_, fun h => ?_⟩
        · have g3 := cGt har (a := N) (b := 55) h
          have hn55 : 55 < n := by omega
          obtain ⟨q, hq⟩ : ∃ q, q = n - 55 := ⟨_, rfl⟩
          obtain ⟨Q, hQ⟩ : ∃ Q, ar.ib .sub .i64 N 55 = Q := ⟨_, rfl⟩
          have hQq : Q = (q : Int) := by rw [← hQ, iSub har (by omega)]; omega
          have hq8 : 1 ≤ q ∧ q ≤ 8 := by omega
          conv at hQ => lhs; cbv
          simp only [cutL, if_pos hn55, ← hq] at hk
          conv => cbv
          rw [hQ]
          refine ⟨fun h => ?_, fun h => ?_⟩
          · have g4 := cLt har (a := ar.len D1) (b := Q) h
            have hk := hk [] [] (by simp) (by simp)
            rw [if_pos (by omega)] at hk
            conv => cbv
            exact hk
          · have g4 := cNlt har (a := ar.len D1) (b := Q) h
            have hqb : q ≤ b.length := by omega
            simp only [if_neg (Nat.not_lt.2 hqb)] at hk
            have hnQ : ar.nat Q = q := natOf har hQq
            obtain ⟨T, hT⟩ : ∃ T, ar.mid X 0 (ar.nat Q) = T := ⟨_, rfl⟩
            have hTt : T = (b.take q).map b8 := by rw [← hT, hnQ, midIs har, ← hX, List.drop_zero, List.take_append_of_le_length (by omega), hD1b, List.map_take]
            obtain ⟨v, hv⟩ : ∃ v, v = bev (b.take q) := ⟨_, rfl⟩
            have hvlt : v < 2 ^ 64 := by
              have h1 := bev_lt (l := b.take q) fun x hx => hbok x (List.mem_of_mem_take hx)
              rw [List.length_take, Nat.min_eq_left hqb, ← hv] at h1
              refine Nat.lt_of_lt_of_le h1 (Nat.le_trans (Nat.pow_le_pow_right (by omega) hq8.2) (by decide))
            rw [← hv] at hk
            obtain ⟨V, hV⟩ : ∃ V : Int, V = (v : Int) := ⟨_, rfl⟩
            have hw : w4 v = [.int .u64 V, .int .u64 0, .int .u64 0, .int .u64 0] := by
              have := w4_v4 (a := v) (b := 0) (c := 0) (d := 0) (by omega) (by omega) (by omega) (by omega)
              rw [hV]
              simpa [v4] using this
            have callG : ∀ (Γ : Ctx) (d' : Nat) (s : List (List PS)) (k : List PR → Prop) (R : Prop), Γ = ctx Try.prog d' → k [.a [.r 4 [.int .u64 V, .int .u64 0, .int .u64 0, .int .u64 0]], .s (.v (.int .i64 0))] → Γ.g 64 [.s (.sl T s)] k ∨ R := fun Γ d' s k R hΓ hk => call_by hΓ u256Get_sound ⟨b.take q, s, by rw [hTt], fun x hx => hbok x (List.mem_of_mem_take hx), by rw [List.length_take]; omega, by unfold pw; rw [← hv, hw]; exact hk⟩
            have sQ : (0 : Int) ≤ Q ∧ Q ≤ ((D1.length + sd.length : Nat) : Int) := by omega
            conv at hT => lhs; cbv
            conv => cbv
            rw [hcat1, hT]
            refine ⟨fun _ => sQ, ?_⟩
            refine callG _ _ _ _ _ hΓ ?_
            obtain ⟨b0, bt, hbb⟩ : ∃ b0 bt, b = b0 :: bt := by
              cases b with
              | nil => exact absurd hqb (by rw [List.length_nil]; omega)
              | cons b0 bt => exact ⟨b0, bt, rfl⟩
            have rb1 : D1[(0 : Int).toNat]? = some [.c (.v (.int .u8 b0))] := by rw [hD1b, hbb]; rfl
            conv => cbv
            refine ⟨by rw [har]; kernel_rfl, _, hb0, rb1, rfl, ?_⟩
            conv => cbv
            have hvM : v < M256 := Nat.lt_trans hvlt (by decide)
            obtain ⟨F, hF⟩ : ∃ F, F = w4 55 := ⟨_, rfl⟩
            obtain ⟨Z, hZ⟩ : ∃ Z : Int, Z = cmpN v 55 := ⟨_, rfl⟩
            have callF : ∀ (Γ : Ctx) (d' : Nat) (k : List PR → Prop), Γ = ctx Try.prog d' → k [.a [.r 4 F]] → Γ.g 33 [.s (.v (.int .u64 55))] k := fun Γ d' k hΓ hk => call_by' hΓ u256From_sound ⟨55, rfl, by omega, by unfold pw; rw [← hF]; exact hk⟩
            have callC : ∀ (Γ : Ctx) (d' : Nat) (k : List PR → Prop), Γ = ctx Try.prog d' → k [.s (.v (.int .i64 Z))] → Γ.g 32 [.a [.r 4 [.int .u64 V, .int .u64 0, .int .u64 0, .int .u64 0]], .a [.r 4 F]] k := fun Γ d' k hΓ hk => call_by' hΓ u256Cmp_sound ⟨v, 55, by unfold pw; rw [hw, hF], hvM, by decide, by rw [← hZ]; exact hk⟩
            have hgb : b.getD 0 0 = b0 := by rw [hbb]; rfl
            refine ⟨fun h => ?_, fun h => ?_⟩
            · have g5 := cNeq har (a := b0) (b := 0) h
              conv => cbv
              refine callF _ _ _ hΓ ?_
              conv => cbv
              refine callC _ _ _ hΓ ?_
              conv => cbv
              refine ⟨fun h => ?_, fun h => ?_⟩
              · have g6 := cLe har (a := Z) (b := 0) h
                have hv55 : v ≤ 55 := cmpN_le (hZ ▸ g6)
                have hk := hk [] [] (by simp) (by simp)
                rw [if_pos (.inr hv55)] at hk
                conv => cbv
                exact hk
              · have g6 := cNle har (a := Z) (b := 0) h
                have hv55 : 55 < v := cmpN_gt (hZ ▸ g6)
                rw [if_neg (show ¬ (b.getD 0 0 = 0 ∨ v ≤ 55) by rw [hgb]; omega)] at hk
                obtain ⟨b2, hb2⟩ : ∃ b2, b2 = b.drop q := ⟨_, rfl⟩
                rw [← hb2] at hk
                obtain ⟨D2, hD2⟩ : ∃ X, ar.frm D1 (ar.nat Q) = X := ⟨_, rfl⟩
                have hb2l : b2.length = b.length - q := by rw [hb2, List.length_drop]
                have hb2ok : bytesOk b2 := fun x hx => hbok x (by rw [hb2] at hx; exact List.mem_of_mem_drop hx)
                have hD2b : D2 = b2.map b8 := by rw [← hD2, hnQ, frmIs har, hD1b, hb2, List.map_drop]
                have hD2l : ar.len D2 = (b2.length : Int) := by rw [lenIs har, hD2b, List.length_map]
                have hD2n : D2.length = b2.length := by rw [hD2b, List.length_map]
                have hD2y : ∀ z ∈ D2, rlen z = 1 := by rw [hD2b]; exact b8_all _
                obtain ⟨Y, hY⟩ : ∃ X, D2 ++ sd = X := ⟨_, rfl⟩
                have hcat2 : catS ar D2 sd = Y := by rw [har, ← hY]; exact catS_eq _ _
                have sQ2 : (0 : Int) ≤ Q ∧ Q ≤ (D1.length : Int) ∧ (∀ z ∈ D1, rlen z = 1) ∧ ∀ z ∈ sd, rlen z = 1 := ⟨by omega, by omega, hD1y, hsd⟩
                obtain ⟨G, hG⟩ : ∃ F, F = w4 b2.length := ⟨_, rfl⟩
                obtain ⟨Z2, hZ2⟩ : ∃ Z : Int, Z = cmpN v b2.length := ⟨_, rfl⟩
                have hcv : ar.cv .u64 (ar.len D2) = (b2.length : Int) := by rw [hD2l, cvU64 har (by omega)]
                have callF2 : ∀ (Γ : Ctx) (d' : Nat) (k : List PR → Prop), Γ = ctx Try.prog d' → k [.a [.r 4 G]] → Γ.g 33 [.s (.v (.int .u64 (ar.cv .u64 (ar.len D2))))] k := fun Γ d' k hΓ hk => call_by' hΓ u256From_sound ⟨b2.length, by rw [hcv], by omega, by unfold pw; rw [← hG]; exact hk⟩
                have callC2 : ∀ (Γ : Ctx) (d' : Nat) (k : List PR → Prop), Γ = ctx Try.prog d' → k [.s (.v (.int .i64 Z2))] → Γ.g 32 [.a [.r 4 [.int .u64 V, .int .u64 0, .int .u64 0, .int .u64 0]], .a [.r 4 G]] k := fun Γ d' k hΓ hk => call_by' hΓ u256Cmp_sound ⟨v, b2.length, by unfold pw; rw [hw, hG], hvM, Nat.lt_of_le_of_lt (show b2.length ≤ 2 ^ 40 by omega) (by decide), by rw [← hZ2]; exact hk⟩
                conv at hD2 => lhs; cbv
                conv at hcat2 => lhs; cbv
                conv => cbv
                refine ⟨fun _ => sQ2, ?_⟩
                rw [hD2]
                refine ⟨by rw [har]; kernel_rfl, ?_⟩
                refine callF2 _ _ _ hΓ ?_
                conv => cbv
                refine callC2 _ _ _ hΓ ?_
                conv => cbv
                refine ⟨fun h => ?_, fun h => ?_⟩
                · have g7 := cGt har (a := Z2) (b := 0) h
                  have hvb : b2.length < v := cmpN_gt (hZ2 ▸ g7)
                  have hk := hk [] [] (by simp) (by simp)
                  rw [if_pos hvb] at hk
                  conv => cbv
                  exact hk
                · have g7 := cNgt har (a := Z2) (b := 0) h
                  have hvb : v ≤ b2.length := cmpN_le (hZ2 ▸ g7)
                  rw [if_neg (Nat.not_lt.2 hvb)] at hk
                  obtain ⟨P, hP⟩ : ∃ P, ar.cv .i64 V = P := ⟨_, rfl⟩
                  have hPv : P = (v : Int) := by rw [← hP, cvI64 har (by omega), hV]
                  conv at hP => lhs; cbv
                  conv => cbv
                  rw [hP]
                  have s12 : (0 : Int) ≤ P ∧ (P ≤ ((D2.length + sd.length : Nat) : Int) ∨ b2.length < v) := by omega
                  have hnat2 : ar.nat P = v := natOf har hPv
                  refine ⟨fun h => ?_, fun h => ?_⟩
                  · have g := cLt har (a := ar.len D2) (b := P) h
                    have hk := hk [] [] (by simp) (by simp)
                    simp only [cutF, if_pos (show b2.length < v by omega)] at hk
                    conv => cbv
                    exact hk
                  · have g := cNlt har (a := ar.len D2) (b := P) h
                    have hle : v ≤ b2.length := by omega
                    have s12 : (0 : Int) ≤ P ∧ P ≤ ((D2.length + sd.length : Nat) : Int) := by omega
                    have s22 : (0 : Int) ≤ P ∧ P ≤ (D2.length : Int) ∧ (∀ z ∈ D2, rlen z = 1) ∧ ∀ z ∈ sd, rlen z = 1 := ⟨by omega, by omega, hD2y, hsd⟩
                    rw [show cutF false v b2 = if false = false ∧ v = 1 ∧ b2.getD 0 0 < 128 then (false, [], [], 71) else (false, b2.take v, b2.drop v, 0) from by unfold cutF; rw [if_neg (Nat.not_lt.2 hle)]] at hk
                    have e1 : ar.mid Y 0 (ar.nat P) = (b2.take v).map b8 := by rw [hnat2, midIs har, ← hY, List.drop_zero, List.take_append_of_le_length (by omega), hD2b, List.map_take]
                    have e3 : ar.frm D2 (ar.nat P) = (b2.drop v).map b8 := by rw [hnat2, frmIs har, hD2b, List.map_drop]
                    have e4 : ∀ z ∈ ar.frm Y (ar.nat P), rlen z = 1 := by
                      rw [hnat2, frmIs har, ← hY, List.drop_append_of_le_length (by omega)]
                      intro z hz
                      rcases List.mem_append.1 hz with hz | hz
                      · exact hD2y z (List.mem_of_mem_drop hz)
                      · exact hsd z hz
                    have hkF : ¬ (false = false ∧ v = 1 ∧ b2.getD 0 0 < 128) → k [.s (.v (.bool false)), .s (.sl (ar.mid Y 0 (ar.nat P)) (ar.frm Y (ar.nat P))), .s (.sl (ar.frm D2 (ar.nat P)) sd), .s (.v (.int .i64 0))] := fun hc => by
                      have hk := hk (ar.frm Y (ar.nat P)) sd e4 hsd
                      rw [if_neg hc] at hk
                      rw [← e1, ← e3] at hk
                      exact hk
                    have hkE : (false = false ∧ v = 1 ∧ b2.getD 0 0 < 128) → k [.s (.v (.bool false)), .s (.sl [] []), .s (.sl [] []), .s (.v (.int .i64 71))] := fun hc => by
                      have hk := hk [] [] (by simp) (by simp)
                      rw [if_pos hc] at hk
                      exact hk
                    clear e1 e3 e4 hk
                    conv => cbv
                    refine onT nL ?_
                    conv => cbv
                    refine ⟨fun h => ?_, fun h => ?_⟩
                    · have g5 := cEq har (a := P) (b := 1) h
                      obtain ⟨b1, bt1, hbb1⟩ : ∃ b0 bt, b2 = b0 :: bt := by
                        cases hB : b2 with
                        | nil => rw [hB, List.length_nil] at hle; omega
                        | cons b0 bt => exact ⟨b0, bt, rfl⟩
                      have rb2 : D2[(0 : Int).toNat]? = some [.c (.v (.int .u8 b1))] := by rw [hD2b, hbb1]; rfl
                      have hg : b2.getD 0 0 = b1 := by rw [hbb1]; rfl
                      conv => cbv
                      refine ⟨_, hb0, rb2, rfl, ?_⟩
                      conv => cbv
                      refine ⟨fun h => ?_, fun h => ?_⟩
                      · have g6 := cLt har (a := b1) (b := 128) h
                        have hkE := hkE ⟨rfl, by omega, by rw [hg]; exact g6⟩
                        conv => cbv
                        exact hkE
                      · have g6 := cNlt har (a := b1) (b := 128) h
                        conv => cbv
                        refine ⟨by rw [har]; kernel_rfl, ?_⟩
                        rw [hcat2]
                        exact ⟨fun _ => s12, fun _ => s22, hkF (fun hc => by rw [hg] at hc; omega)⟩
                    · have g5 := cNeq har (a := P) (b := 1) h
                      conv => cbv
                      refine ⟨by rw [har]; kernel_rfl, ?_⟩
                      rw [hcat2]
                      exact ⟨fun _ => s12, fun _ => s22, hkF (fun hc => by omega)⟩
            · have g5 := cEq har (a := b0) (b := 0) h
              have hk := hk [] [] (by simp) (by simp)
              rw [if_pos (.inl (by rw [hgb]; exact g5))] at hk
              conv => cbv
              exact hk
        · have g3 := cNgt har (a := N) (b := 55) h
          simp only [cutL, if_neg (show ¬ 55 < n by omega)] at hk
          conv => cbv
          try rw [hN]
          have s11 : (0 : Int) ≤ N ∧ (N ≤ ((D1.length + sd.length : Nat) : Int) ∨ b.length < n) := by omega
          have hnat1 : ar.nat N = n := natOf har hNn
          refine ⟨fun h => ?_, fun h => ?_⟩
          · have g := cLt har (a := ar.len D1) (b := N) h
            have hk := hk [] [] (by simp) (by simp)
            simp only [cutF, if_pos (show b.length < n by omega)] at hk
            conv => cbv
            exact hk
          · have g := cNlt har (a := ar.len D1) (b := N) h
            have hle : n ≤ b.length := by omega
            have s11 : (0 : Int) ≤ N ∧ N ≤ ((D1.length + sd.length : Nat) : Int) := by omega
            have s21 : (0 : Int) ≤ N ∧ N ≤ (D1.length : Int) ∧ (∀ z ∈ D1, rlen z = 1) ∧ ∀ z ∈ sd, rlen z = 1 := ⟨by omega, by omega, hD1y, hsd⟩
            rw [show cutF false n b = if false = false ∧ n = 1 ∧ b.getD 0 0 < 128 then (false, [], [], 71) else (false, b.take n, b.drop n, 0) from by unfold cutF; rw [if_neg (Nat.not_lt.2 hle)]] at hk
            have e1 : ar.mid X 0 (ar.nat N) = (b.take n).map b8 := by rw [hnat1, midIs har, ← hX, List.drop_zero, List.take_append_of_le_length (by omega), hD1b, List.map_take]
            have e3 : ar.frm D1 (ar.nat N) = (b.drop n).map b8 := by rw [hnat1, frmIs har, hD1b, List.map_drop]
            have e4 : ∀ z ∈ ar.frm X (ar.nat N), rlen z = 1 := by
              rw [hnat1, frmIs har, ← hX, List.drop_append_of_le_length (by omega)]
              intro z hz
              rcases List.mem_append.1 hz with hz | hz
              · exact hD1y z (List.mem_of_mem_drop hz)
              · exact hsd z hz
            have hkF : ¬ (false = false ∧ n = 1 ∧ b.getD 0 0 < 128) → k [.s (.v (.bool false)), .s (.sl (ar.mid X 0 (ar.nat N)) (ar.frm X (ar.nat N))), .s (.sl (ar.frm D1 (ar.nat N)) sd), .s (.v (.int .i64 0))] := fun hc => by
              have hk := hk (ar.frm X (ar.nat N)) sd e4 hsd
              rw [if_neg hc] at hk
              rw [← e1, ← e3] at hk
              exact hk
            have hkE : (false = false ∧ n = 1 ∧ b.getD 0 0 < 128) → k [.s (.v (.bool false)), .s (.sl [] []), .s (.sl [] []), .s (.v (.int .i64 71))] := fun hc => by
              have hk := hk [] [] (by simp) (by simp)
              rw [if_pos hc] at hk
              exact hk
            clear e1 e3 e4 hk
            conv => cbv
            refine onT nL ?_
            conv => cbv
            refine ⟨fun h => ?_, fun h => ?_⟩
            · have g5 := cEq har (a := N) (b := 1) h
              obtain ⟨b1, bt1, hbb1⟩ : ∃ b0 bt, b = b0 :: bt := by
                cases hB : b with
                | nil => rw [hB, List.length_nil] at hle; omega
                | cons b0 bt => exact ⟨b0, bt, rfl⟩
              have rb2 : D1[(0 : Int).toNat]? = some [.c (.v (.int .u8 b1))] := by rw [hD1b, hbb1]; rfl
              have hg : b.getD 0 0 = b1 := by rw [hbb1]; rfl
              conv => cbv
              refine ⟨_, hb0, rb2, rfl, ?_⟩
              conv => cbv
              refine ⟨fun h => ?_, fun h => ?_⟩
              · have g6 := cLt har (a := b1) (b := 128) h
                have hkE := hkE ⟨rfl, by omega, by rw [hg]; exact g6⟩
                conv => cbv
                exact hkE
              · have g6 := cNlt har (a := b1) (b := 128) h
                conv => cbv
                refine ⟨by rw [har]; kernel_rfl, ?_⟩
                rw [hcat1]
                exact ⟨fun _ => s11, fun _ => s21, hkF (fun hc => by rw [hg] at hc; omega)⟩
            · have g5 := cNeq har (a := N) (b := 1) h
              conv => cbv
              refine ⟨by rw [har]; kernel_rfl, ?_⟩
              rw [hcat1]
              exact ⟨fun _ => s11, fun _ => s21, hkF (fun hc => by omega)⟩
end Go.Eng
namespace Go.Eng
open Go Go.Proofs
set_option linter.unusedSectionVars false
set_option linter.unusedVariables false

theorem cutF_len {l : Bool} {n : Nat} {b : List Int} (h : (cutF l n b).2.2.2 = 0) : (cutF l n b).2.1.length + (cutF l n b).2.2.1.length = b.length ∧ (cutF l n b).1 = l := by
  revert h
  unfold cutF
  split
  · intro h; cases h
  · split
    · intro h; cases h
    · intro _
      simp only [List.length_take, List.length_drop]
      exact ⟨by omega, trivial⟩

theorem cutL_len {l : Bool} {n : Nat} {b : List Int} (h : (cutL l n b).2.2.2 = 0) : (cutL l n b).2.1.length + (cutL l n b).2.2.1.length ≤ b.length ∧ (cutL l n b).1 = l := by
  revert h
  unfold cutL
  split
  · split
    · intro h; cases h
    · split
      · intro h; cases h
      · split
        · intro h; cases h
        · intro h
          have := cutF_len h
          rw [List.length_drop] at this
          exact ⟨by omega, this.2⟩
  · intro h
    have := cutF_len h
    exact ⟨by omega, this.2⟩

theorem cutR_len {d : List Int} (h : (cutR d).2.2.2 = 0) : (cutR d).2.2.1.length < d.length ∧ (cutR d).2.1.length ≤ d.length ∧ ((cutR d).1 = true → (cutR d).2.1.length + (cutR d).2.2.1.length < d.length) := by
  revert h
  cases d with
  | nil => intro h; cases h
  | cons c b =>
    simp only [cutR]
    split
    · intro _
      exact ⟨by simp, by simp, by simp⟩
    · split
      · intro h
        have := (cutL_len h).1
        rw [List.length_cons]
        exact ⟨by omega, by omega, by omega⟩
      · intro h
        have := (cutL_len h).1
        rw [List.length_cons]
        exact ⟨by omega, by omega, by omega⟩

theorem cutF_sub {P : Int → Prop} {l : Bool} {n : Nat} {b : List Int} (hb : ∀ x ∈ b, P x) : (∀ x ∈ (cutF l n b).2.1, P x) ∧ ∀ x ∈ (cutF l n b).2.2.1, P x := by
  unfold cutF
  split
  · exact ⟨by simp, by simp⟩
  · split
    · exact ⟨by simp, by simp⟩
    · exact ⟨fun x hx => hb x (List.mem_of_mem_take hx), fun x hx => hb x (List.mem_of_mem_drop hx)⟩

theorem cutL_sub {P : Int → Prop} {l : Bool} {n : Nat} {b : List Int} (hb : ∀ x ∈ b, P x) : (∀ x ∈ (cutL l n b).2.1, P x) ∧ ∀ x ∈ (cutL l n b).2.2.1, P x := by
  unfold cutL
  split
  · split
    · exact ⟨by simp, by simp⟩
    · split
      · exact ⟨by simp, by simp⟩
      · split
        · exact ⟨by simp, by simp⟩
        · exact cutF_sub fun x hx => hb x (List.mem_of_mem_drop hx)
  · exact cutF_sub hb

theorem cutR_sub {P : Int → Prop} {d : List Int} (hb : ∀ x ∈ d, P x) : (∀ x ∈ (cutR d).2.1, P x) ∧ ∀ x ∈ (cutR d).2.2.1, P x := by
  cases d with
  | nil => exact ⟨by simp [cutR], by simp [cutR]⟩
  | cons c b =>
    have h1 := hb c (by simp)
    have h2 : ∀ x ∈ b, P x := fun x hx => hb x (by simp [hx])
    simp only [cutR]
    split
    · exact ⟨by simpa using h1, h2⟩
    · split
      · exact cutL_sub h2
      · exact cutL_sub h2

/-- The items in bytes, within w lists. -/
def dL : Nat → Nat → List Int → Except Int (List It)
  | _, _, [] => .ok []
  | 0, _, _ :: _ => .error 0
  | f + 1, w, c :: p => if (cutR (c :: p)).2.2.2 = 0 then
      if (cutR (c :: p)).1 = true then
        if w = 1024 then .error 74 else match dL f (w + 1) (cutR (c :: p)).2.1 with
          | .error e => .error e
          | .ok its => match dL f w (cutR (c :: p)).2.2.1 with
            | .error e => .error e
            | .ok xs => .ok (.lst its :: xs)
      else match dL f w (cutR (c :: p)).2.2.1 with
        | .error e => .error e
        | .ok xs => .ok (.txt (cutR (c :: p)).2.1 :: xs)
    else .error (cutR (c :: p)).2.2.2

theorem dL_fuel : ∀ (f f' w : Nat) (p : List Int), p.length ≤ f → p.length ≤ f' → dL f w p = dL f' w p
  | 0, f', w, p, h, h' => by
    have : p = [] := List.eq_nil_of_length_eq_zero (by omega)
    subst this
    cases f' <;> rfl
  | f + 1, 0, w, p, h, h' => by
    have : p = [] := List.eq_nil_of_length_eq_zero (by omega)
    subst this
    rfl
  | f + 1, f' + 1, w, [], h, h' => rfl
  | f + 1, f' + 1, w, c :: p, h, h' => by
    rw [List.length_cons] at h h'
    simp only [dL]
    by_cases he : (cutR (c :: p)).2.2.2 = 0
    · obtain ⟨h1, _, h3⟩ := cutR_len he
      rw [List.length_cons] at h1 h3
      rw [if_pos he, if_pos he]
      rw [dL_fuel f f' w (cutR (c :: p)).2.2.1 (by omega) (by omega)]
      by_cases hl : (cutR (c :: p)).1 = true
      · rw [if_pos hl, if_pos hl]
        have := h3 hl
        rw [dL_fuel f f' (w + 1) (cutR (c :: p)).2.1 (by omega) (by omega)]
      · rw [if_neg hl, if_neg hl]
    · rw [if_neg he, if_neg he]

def dec (w : Nat) (p : List Int) : Except Int (List It) := dL p.length w p

theorem dec_nil (w : Nat) : dec w [] = .ok [] := rfl

theorem dec_cons (w : Nat) {p : List Int} (hp : p ≠ []) : dec w p = if (cutR p).2.2.2 = 0 then
      if (cutR p).1 = true then
        if w = 1024 then .error 74 else match dec (w + 1) (cutR p).2.1 with
          | .error e => .error e
          | .ok its => match dec w (cutR p).2.2.1 with
            | .error e => .error e
            | .ok xs => .ok (.lst its :: xs)
      else match dec w (cutR p).2.2.1 with
        | .error e => .error e
        | .ok xs => .ok (.txt (cutR p).2.1 :: xs)
    else .error (cutR p).2.2.2 := by
  cases p with
  | nil => exact absurd rfl hp
  | cons c p =>
    unfold dec
    rw [List.length_cons]
    simp only [dL]
    by_cases he : (cutR (c :: p)).2.2.2 = 0
    · obtain ⟨h1, _, h3⟩ := cutR_len he
      rw [List.length_cons] at h1 h3
      rw [if_pos he, if_pos he]
      rw [dL_fuel p.length (cutR (c :: p)).2.2.1.length w (cutR (c :: p)).2.2.1 (by omega) (by omega)]
      by_cases hl : (cutR (c :: p)).1 = true
      · rw [if_pos hl, if_pos hl]
        have := h3 hl
        rw [dL_fuel p.length (cutR (c :: p)).2.1.length (w + 1) (cutR (c :: p)).2.1 (by omega) (by omega)]
      · rw [if_neg hl, if_neg hl]
    · rw [if_neg he, if_neg he]

/-- A list that is being read: its items so far, the bytes behind it (and what stands behind these). -/
structure Opn where
  its : List It
  bh : List Int
  sb : List (List PS)

def cEnd : List Opn → It → List Int → Except Int It
  | [], it, b => if b = [] then .ok it else .error 73
  | o :: S, it, b => match dec (S.length + 1) b with
    | .error e => .error e
    | .ok xs => cEnd S (.lst (o.its ++ it :: xs)) o.bh

def cWithin (its : List It) (bh : List Int) (S : List Opn) (b : List Int) : Except Int It :=
  match dec (S.length + 1) b with
  | .error e => .error e
  | .ok xs => cEnd S (.lst (its ++ xs)) bh

def cItem (S : List Opn) (b : List Int) : Except Int It :=
  if (cutR b).2.2.2 = 0 then
    if (cutR b).1 = true then (if S.length = 1024 then .error 74 else cWithin [] (cutR b).2.2.1 S (cutR b).2.1)
    else cEnd S (.txt (cutR b).2.1) (cutR b).2.2.1
  else .error (cutR b).2.2.2

theorem cEnd_cons (o : Opn) (S : List Opn) (it : It) (b : List Int) : cEnd (o :: S) it b = cWithin (o.its ++ [it]) o.bh S b := by
  simp only [cEnd, cWithin, List.append_assoc, List.singleton_append]

theorem cWithin_nil (its : List It) (bh : List Int) (S : List Opn) : cWithin its bh S [] = cEnd S (.lst its) bh := by
  simp only [cWithin, dec_nil, List.append_nil]

theorem cWithin_item (o : Opn) (S : List Opn) {b : List Int} (hb : b ≠ []) : cWithin o.its o.bh S b = cItem (o :: S) b := by
  unfold cWithin cItem
  rw [dec_cons _ hb]
  by_cases he : (cutR b).2.2.2 = 0
  · rw [if_pos he, if_pos he]
    by_cases hl : (cutR b).1 = true
    · rw [if_pos hl, if_pos hl, List.length_cons]
      by_cases hw : S.length + 1 = 1024
      · rw [if_pos hw, if_pos hw]
      · rw [if_neg hw, if_neg hw]
        unfold cWithin
        rw [List.length_cons]
        cases dec (S.length + 1 + 1) (cutR b).2.1 with
        | error e => rfl
        | ok its =>
          simp only [cEnd, List.nil_append]
          cases dec (S.length + 1) (cutR b).2.2.1 with
          | error e => rfl
          | ok xs => rfl
    · rw [if_neg hl, if_neg hl]
      simp only [cEnd]
      cases dec (S.length + 1) (cutR b).2.2.1 with
      | error e => rfl
      | ok xs => rfl
  · rw [if_neg he, if_neg he]

/-- What the one item in bytes is. -/
def decR (d : List Int) : Except Int It := if 16777216 < d.length then .error 2 else cItem [] d

/-- An open list's row on the stack. -/
def Opn.row (o : Opn) : List PS := [.c (.ow (rowsOf o.its) 63 3 56), .c (.sl (o.bh.map b8) o.sb)]
def rowsS (S : List Opn) : List (List PS) := (S.map Opn.row).reverse
def Opn.ok (o : Opn) : Prop := bytesOk o.bh ∧ ∀ z ∈ o.sb, rlen z = 1

theorem rowsS_length (S : List Opn) : (rowsS S).length = S.length := by simp [rowsS]
theorem rowsS_cons (o : Opn) (S : List Opn) : rowsS (o :: S) = rowsS S ++ [o.row] := by simp [rowsS]
theorem rowsS_last (o : Opn) (S : List Opn) : (rowsS (o :: S))[S.length]? = some o.row := by
  rw [rowsS_cons, List.getElem?_append_right (by rw [rowsS_length]; exact Nat.le_refl _), rowsS_length, Nat.sub_self]; rfl
theorem rowsS_set (o o' : Opn) (S : List Opn) : (rowsS (o :: S)).set S.length o'.row = rowsS (o' :: S) := by
  rw [rowsS_cons, rowsS_cons, List.set_append_right _ _ (by rw [rowsS_length]; exact Nat.le_refl _), rowsS_length, Nat.sub_self]; rfl
theorem rowsS_take (o : Opn) (S : List Opn) (r : List PS) : ((rowsS (o :: S)).set S.length r).take S.length = rowsS S := by
  rw [rowsS_cons, List.set_append_right _ _ (by rw [rowsS_length]; exact Nat.le_refl _), List.take_append_of_le_length (by rw [rowsS_length]; exact Nat.le_refl _), List.take_of_length_le (by rw [rowsS_length]; exact Nat.le_refl _)]

/-- How many bytes are still to be read; how many items have been read. -/
def left (b : List Int) (S : List Opn) : Nat := b.length + (S.map fun o => o.bh.length).sum
def held (S : List Opn) : Nat := (S.map fun o => o.its.length + 1).sum

theorem held_le (S : List Opn) : S.length ≤ held S := by
  unfold held
  induction S with
  | nil => simp
  | cons o S ih => simp only [List.map_cons, List.sum_cons, List.length_cons]; omega

theorem left_eq (b : List Int) (S : List Opn) : left b S = b.length + left [] S := by simp [left]
theorem left_cons (b : List Int) (o : Opn) (S : List Opn) : left b (o :: S) = b.length + o.bh.length + left [] S := by simp [left]; omega
theorem held_cons (o : Opn) (S : List Opn) : held (o :: S) = o.its.length + 1 + held S := by simp [held]

section
variable {ar : Ar} (har : ar = arS) {X : List (List PS)} {o : Opn} {S : List Opn} (hX : X = rowsS (o :: S)) (hl : S.length ≤ 2 ^ 30)
include har hX hl

theorem dqLen : X.length = S.length + 1 := by rw [hX, rowsS_length, List.length_cons]
theorem dqIx : ar.nat (ar.ib .sub .i64 (ar.len X) 1) = S.length := by
  have e := dqLen har hX hl
  rw [lenIs har, e, iSub har (by omega)]; exact natOf har (by omega)
theorem dqB : (0 : Int) ≤ ar.ib .sub .i64 (ar.len X) 1 ∧ ar.ib .sub .i64 (ar.len X) 1 < (X.length : Int) := by
  have e := dqLen har hX hl
  rw [lenIs har, e, iSub har (by omega)]; omega
theorem dqGet {r : List PS} (hr : o.row = r) : X[ar.nat (ar.ib .sub .i64 (ar.len X) 1)]? = some r := by rw [dqIx har hX hl, hX, rowsS_last, hr]
theorem dqGet2 (r : List PS) : (ar.setx X (ar.nat (ar.ib .sub .i64 (ar.len X) 1)) r)[ar.nat (ar.ib .sub .i64 (ar.len X) 1)]? = some r := by
  have e := dqLen har hX hl
  rw [setxIs har, dqIx har hX hl, List.getElem?_set_self (by omega)]
theorem dqB2 (r : List PS) : (0 : Int) ≤ ar.ib .sub .i64 (ar.len X) 1 ∧ ar.ib .sub .i64 (ar.len X) 1 < ((ar.setx X (ar.nat (ar.ib .sub .i64 (ar.len X) 1)) r).length : Int) := by
  rw [setxIs har, List.length_set]; exact dqB har hX hl
theorem dqLenS (i : Nat) (r : List PS) : ar.len (ar.setx X i r) = ar.len X := by rw [lenIs har, lenIs har, setxIs har, List.length_set]
/-- The row that has been put back. -/
theorem dqPut {o' : Opn} {r1 r2 r : List PS} (hr : o'.row = r) : ar.setx (ar.setx (ar.setx X (ar.nat (ar.ib .sub .i64 (ar.len X) 1)) r1) (ar.nat (ar.ib .sub .i64 (ar.len X) 1)) r2) (ar.nat (ar.ib .sub .i64 (ar.len X) 1)) r = rowsS (o' :: S) := by
  rw [dqIx har hX hl, setxIs har, setxIs har, setxIs har, List.set_set, List.set_set, hX, ← hr, rowsS_set]
theorem dqB3 (i : Nat) (r : List PS) : (0 : Int) ≤ ar.ib .sub .i64 (ar.len (ar.setx X i r)) 1 ∧ ar.ib .sub .i64 (ar.len (ar.setx X i r)) 1 < ((ar.setx X i r).length : Int) := by
  rw [dqLenS har hX hl, setxIs har, List.length_set]; exact dqB har hX hl
theorem dqGet3 (r : List PS) : (ar.setx X (ar.nat (ar.ib .sub .i64 (ar.len X) 1)) r)[ar.nat (ar.ib .sub .i64 (ar.len (ar.setx X (ar.nat (ar.ib .sub .i64 (ar.len X) 1)) r)) 1)]? = some r := by
  rw [dqLenS har hX hl]; exact dqGet2 har hX hl r
theorem dqB4 (i : Nat) (r : List PS) : (0 : Int) ≤ ar.ib .sub .i64 (ar.len (ar.setx X i r)) 1 ∧ ar.ib .sub .i64 (ar.len (ar.setx X i r)) 1 ≤ ((ar.setx X i r).length : Int) := by
  have := dqB3 har hX hl i r; omega
theorem dqPop (r : List PS) : ar.mid (ar.setx X (ar.nat (ar.ib .sub .i64 (ar.len X) 1)) r) 0 (ar.nat (ar.ib .sub .i64 (ar.len (ar.setx X (ar.nat (ar.ib .sub .i64 (ar.len X) 1)) r)) 1)) = rowsS S := by
  rw [dqLenS har hX hl, dqIx har hX hl, setxIs har, midIs har, List.drop_zero, hX, rowsS_take]
end

end Go.Eng
