/-
  rlp.cut: the head of the first item. Conditions: bytes in their range, sizes up to 2^40.
  Decoding as plain data: what the items in bytes are; what a reader with a stack of open lists goes on to tell. No program in sight.
  rlp.Decode. Conditions: bytes in their range, at most 2^40 of them.
-/
import Derived.Test.YtnaafeeloicklaaDoorRC
namespace Go.Eng
open Go Go.Proofs
set_option maxRecDepth 100000
set_option maxHeartbeats 4000000
set_option linter.unusedVariables false

def cutF (l : Bool) (n : Nat) (b : List Int) : Bool × List Int × List Int × Int :=
  if b.length < n then (false, [], [], 70)
  else if l = false ∧ n = 1 ∧ b.getD 0 0 < 128 then (false, [], [], 71)
  else (l, b.take n, b.drop n, 0)

def cutL (l : Bool) (n : Nat) (b : List Int) : Bool × List Int × List Int × Int :=
  if 55 < n then
    if b.length < n - 55 then (false, [], [], 70)
    else if b.getD 0 0 = 0 ∨ bev (b.take (n - 55)) ≤ 55 then (false, [], [], 72)
    else if (b.drop (n - 55)).length < bev (b.take (n - 55)) then (false, [], [], 70)
    else cutF l (bev (b.take (n - 55))) (b.drop (n - 55))
  else cutF l n b

/-- The head of the first item: a list?, what it holds, what stands behind it, the error. -/
def cutR : List Int → Bool × List Int × List Int × Int
  | [] => (false, [], [], 70)
  | c :: b => if c < 128 then (false, [c], b, 0) else if 192 ≤ c then cutL true (c - 192).toNat b else cutL false (c - 128).toNat b

theorem cmpN_le {n m : Nat} (h : cmpN n m ≤ 0) : n ≤ m := by
  unfold cmpN at h; split at h <;> (try split at h) <;> omega
theorem cmpN_gt {n m : Nat} (h : 0 < cmpN n m) : m < n := by
  unfold cmpN at h; split at h <;> (try split at h) <;> omega

theorem cut_sound : Sound Tryd.prog 70 fun args k => ∃ (d : List Int) (sd : List (List PS)), args = [.s (.sl (d.map b8) sd)] ∧ bytesOk d ∧ d.length ≤ 2 ^ 40 ∧ (∀ z ∈ sd, rlen z = 1) ∧
    ∀ sp sr : List (List PS), (∀ z ∈ sp, rlen z = 1) → (∀ z ∈ sr, rlen z = 1) → k [.s (.v (.bool (cutR d).1)), .s (.sl ((cutR d).2.1.map b8) sp), .s (.sl ((cutR d).2.2.1.map b8) sr), .s (.v (.int .i64 (cutR d).2.2.2))] := by
  refine Sound.of_body tt_ok ent_ok Tryd.func70 rfl ?_
  rintro ar har Γ hΓ args k ⟨d, sd, hargs, hok, hl, hsd, hk⟩
  obtain ⟨D, hD⟩ : ∃ D, D = d.map b8 := ⟨_, rfl⟩
  have hDl : ar.len D = (d.length : Int) := by rw [lenIs har, hD, List.length_map]
  have hDy : ∀ z ∈ D, rlen z = 1 := by rw [hD]; exact b8_all _
  have hDn : D.length = d.length := by rw [hD, List.length_map]
  rw [← hD] at hargs
  have hcat : catS ar D sd = D ++ sd := by rw [har]; exact catS_eq _ _
  conv at hcat => lhs; cbv
  cases d with
  | nil =>
    have hk := hk [] [] (by simp) (by simp)
    have h0 : ar.cb .eql (ar.len D) 0 = true := dEq har (by rw [hDl]; rfl)
    subst hargs
    conv => cbv
    refine onT h0 ?_
    conv => cbv
    exact hk
  | cons c b =>
    have h0 : ar.cb .eql (ar.len D) 0 = false := dNeq har (by rw [hDl, List.length_cons]; omega)
    have rb : D[(0 : Int).toNat]? = some [.c (.v (.int .u8 c))] := by rw [hD]; rfl
    have hb0 : (0 : Int) ≤ 0 := Int.le_refl 0
    have hcr := hok c (by simp)
    have hbok : bytesOk b := fun x hx => hok x (by simp [hx])
    rw [List.length_cons] at hDl hDn hl
    have hdr : D.drop 1 = b.map b8 := by rw [hD]; rfl
    subst hargs
    conv => cbv
    refine onF h0 ?_
    conv => cbv
    refine ⟨_, hb0, rb, rfl, ?_⟩
    conv => cbv
    refine ⟨fun h => ?_, fun h => ?_⟩
    · have g := cLt har (a := c) (b := 128) h
      have e1 : ar.mid (D ++ sd) 0 1 = [c].map b8 := by rw [midIs har, List.drop_zero, List.take_append_of_le_length (by omega), hD]; rfl
      have e2 : ar.frm (D ++ sd) 1 = D.drop 1 ++ sd := by rw [frmIs har, List.drop_append_of_le_length (by omega)]
      have e3 : ar.frm D 1 = b.map b8 := by rw [frmIs har, hdr]
      have e4 : ∀ z ∈ ar.frm (D ++ sd) 1, rlen z = 1 := by
        rw [e2, hdr]; intro z hz
        rcases List.mem_append.1 hz with hz | hz
        · exact b8_all _ z hz
        · exact hsd z hz
      have hk := hk (ar.frm (D ++ sd) 1) sd e4 hsd
      simp only [cutR, if_pos g] at hk
      rw [← e1, ← e3] at hk
      have s1 : (0 : Int) ≤ 1 ∧ (1 : Int) ≤ ((D.length + sd.length : Nat) : Int) := by omega
      have s2 : (0 : Int) ≤ 1 ∧ (1 : Int) ≤ (D.length : Int) ∧ (∀ z ∈ D, rlen z = 1) ∧ ∀ z ∈ sd, rlen z = 1 := ⟨by omega, by omega, hDy, hsd⟩
      conv => cbv
      refine ⟨by rw [har]; kernel_rfl, ?_⟩
      rw [hcat]
      exact ⟨fun _ => s1, fun _ => s2, hk⟩
    · have g := cNlt har (a := c) (b := 128) h
      have s2 : (0 : Int) ≤ 1 ∧ (1 : Int) ≤ (D.length : Int) ∧ (∀ z ∈ D, rlen z = 1) ∧ ∀ z ∈ sd, rlen z = 1 := ⟨by omega, by omega, hDy, hsd⟩
      obtain ⟨D1, hD1⟩ : ∃ X, ar.frm D 1 = X := ⟨_, rfl⟩
      have hD1b : D1 = b.map b8 := by rw [← hD1, frmIs har, hdr]
      have hD1l : ar.len D1 = (b.length : Int) := by rw [lenIs har, hD1b, List.length_map]
      have hD1n : D1.length = b.length := by rw [hD1b, List.length_map]
      have hD1y : ∀ z ∈ D1, rlen z = 1 := by rw [hD1b]; exact b8_all _
      obtain ⟨X, hX⟩ : ∃ X, D1 ++ sd = X := ⟨_, rfl⟩
      have hcat1 : catS ar D1 sd = X := by rw [har, ← hX]; exact catS_eq _ _
      conv at hcat1 => lhs; cbv
      conv at hD1 => lhs; cbv
      conv => cbv
      refine ⟨fun h => ?_, fun h => ?_⟩
      · have g2 := cGe har (a := c) (b := 192) h
        obtain ⟨n, hn⟩ : ∃ n, n = (c - 192).toNat := ⟨_, rfl⟩
        obtain ⟨N, hN⟩ : ∃ N, ar.cv .i64 (ar.ib .sub .u8 c 192) = N := ⟨_, rfl⟩
        have hNn : N = (n : Int) := by rw [← hN, iIs har, show intB .sub .u8 c 192 = IntKind.u8.wrap (c - 192) from rfl, u8Wrap, cvI64 har (by omega), hn]; omega
        have hn63 : n ≤ 63 := by omega
        have hk : ∀ sp sr : List (List PS), (∀ z ∈ sp, rlen z = 1) → (∀ z ∈ sr, rlen z = 1) → k [.s (.v (.bool (cutL true n b).1)), .s (.sl ((cutL true n b).2.1.map b8) sp), .s (.sl ((cutL true n b).2.2.1.map b8) sr), .s (.v (.int .i64 (cutL true n b).2.2.2))] := by
          have e : cutR (c :: b) = cutL true n b := by rw [hn]; simp only [cutR, if_neg (Int.not_lt.2 g), if_pos g2]
          rw [e] at hk; exact hk
        conv at hN => lhs; cbv
        have nL : ar.nb true = false := by rw [har]; rfl
        rw [h]
        conv => cbv
        refine ⟨fun _ => s2, ?_⟩
        rw [hD1, hN]
        refine ⟨fun h => ?_, fun h => ?_⟩
        · have g3 := cGt har (a := N) (b := 55) h
          have hn55 : 55 < n := by omega
          obtain ⟨q, hq⟩ : ∃ q, q = n - 55 := ⟨_, rfl⟩
          obtain ⟨Q, hQ⟩ : ∃ Q, ar.ib .sub .i64 N 55 = Q := ⟨_, rfl⟩
          have hQq : Q = (q : Int) := by rw [← hQ, iSub har (by omega)]; omega
          have hq8 : 1 ≤ q ∧ q ≤ 8 := by omega
          conv at hQ => lhs; cbv
          simp only [cutL, if_pos hn55, ← hq] at hk
          conv => cbv
          rw [hQ]
          refine ⟨fun h => ?_, fun h => ?_⟩
          · have g4 := cLt har (a := ar.len D1) (b := Q) h
            have hk := hk [] [] (by simp) (by simp)
            rw [if_pos (by omega)] at hk
            conv => cbv
            exact hk
          · have g4 := cNlt har (a := ar.len D1) (b := Q) h
            have hqb : q ≤ b.length := by omega
            simp only [if_neg (Nat.not_lt.2 hqb)] at hk
            have hnQ : ar.nat Q = q := natOf har hQq
            obtain ⟨T, hT⟩ : ∃ T, ar.mid X 0 (ar.nat Q) = T := ⟨_, rfl⟩
            have hTt : T = (b.take q).map b8 := by rw [← hT, hnQ, midIs har, ← hX, List.drop_zero, List.take_append_of_le_length (by omega), hD1b, List.map_take]
            obtain ⟨v, hv⟩ : ∃ v, v = bev (b.take q) := ⟨_, rfl⟩
            have hvlt : v < 2 ^ 64 := by
              have h1 := bev_lt (l := b.take q) fun x hx => hbok x (List.mem_of_mem_take hx)
              rw [List.length_take, Nat.min_eq_left hqb, ← hv] at h1
              refine Nat.lt_of_lt_of_le h1 (Nat.le_trans (Nat.pow_le_pow_right (by omega) hq8.2) (by decide))
            rw [← hv] at hk
            obtain ⟨V, hV⟩ : ∃ V : Int, V = (v : Int) := ⟨_, rfl⟩
            have hw : w4 v = [.int .u64 V, .int .u64 0, .int .u64 0, .int .u64 0] := by
              have := w4_v4 (a := v) (b := 0) (c := 0) (d := 0) (by omega) (by omega) (by omega) (by omega)
              rw [hV]
              simpa [v4] using this
            have callG : ∀ (Γ : Ctx) (d' : Nat) (s : List (List PS)) (k : List PR → Prop) (R : Prop), Γ = ctx Tryd.prog d' → k [.a [.r 4 [.int .u64 V, .int .u64 0, .int .u64 0, .int .u64 0]], .s (.v (.int .i64 0))] → Γ.g 85 [.s (.sl T s)] k ∨ R := fun Γ d' s k R hΓ hk => call_by hΓ u256Get_sound ⟨b.take q, s, by rw [hTt], fun x hx => hbok x (List.mem_of_mem_take hx), by rw [List.length_take]; omega, by unfold pw; rw [← hv, hw]; exact hk⟩
            have sQ : (0 : Int) ≤ Q ∧ Q ≤ ((D1.length + sd.length : Nat) : Int) := by omega
            conv at hT => lhs; cbv
            conv => cbv
            rw [hcat1, hT]
            refine ⟨fun _ => sQ, ?_⟩
            refine callG _ _ _ _ _ hΓ ?_
            obtain ⟨b0, bt, hbb⟩ : ∃ b0 bt, b = b0 :: bt := by
              cases b with
              | nil => exact absurd hqb (by rw [List.length_nil]; omega)
              | cons b0 bt => exact ⟨b0, bt, rfl⟩
            have rb1 : D1[(0 : Int).toNat]? = some [.c (.v (.int .u8 b0))] := by rw [hD1b, hbb]; rfl
            conv => cbv
            refine ⟨by rw [har]; kernel_rfl, _, hb0, rb1, rfl, ?_⟩
            conv => cbv
            have hvM : v < M256 := Nat.lt_trans hvlt (by decide)
            obtain ⟨F, hF⟩ : ∃ F, F = w4 55 := ⟨_, rfl⟩
            obtain ⟨Z, hZ⟩ : ∃ Z : Int, Z = cmpN v 55 := ⟨_, rfl⟩
            have callF : ∀ (Γ : Ctx) (d' : Nat) (k : List PR → Prop), Γ = ctx Tryd.prog d' → k [.a [.r 4 F]] → Γ.g 41 [.s (.v (.int .u64 55))] k := fun Γ d' k hΓ hk => call_by' hΓ u256From_sound ⟨55, rfl, by omega, by unfold pw; rw [← hF]; exact hk⟩
            have callC : ∀ (Γ : Ctx) (d' : Nat) (k : List PR → Prop), Γ = ctx Tryd.prog d' → k [.s (.v (.int .i64 Z))] → Γ.g 40 [.a [.r 4 [.int .u64 V, .int .u64 0, .int .u64 0, .int .u64 0]], .a [.r 4 F]] k := fun Γ d' k hΓ hk => call_by' hΓ u256Cmp_sound ⟨v, 55, by unfold pw; rw [hw, hF], hvM, by decide, by rw [← hZ]; exact hk⟩
            have hgb : b.getD 0 0 = b0 := by rw [hbb]; rfl
            refine ⟨fun h => ?_, fun h => ?_⟩
            · have g5 := cNeq har (a := b0) (b := 0) h
              conv => cbv
              refine callF _ _ _ hΓ ?_
              conv => cbv
              refine callC _ _ _ hΓ ?_
              conv => cbv
              refine ⟨fun h => ?_, fun h => ?_⟩
              · have g6 := cLe har (a := Z) (b := 0) h
                have hv55 : v ≤ 55 := cmpN_le (hZ ▸ g6)
                have hk := hk [] [] (by simp) (by simp)
                rw [if_pos (.inr hv55)] at hk
                conv => cbv
                exact hk
              · have g6 := cNle har (a := Z) (b := 0) h
                have hv55 : 55 < v := cmpN_gt (hZ ▸ g6)
                rw [if_neg (show ¬ (b.getD 0 0 = 0 ∨ v ≤ 55) by rw [hgb]; omega)] at hk
                obtain ⟨b2, hb2⟩ : ∃ b2, b2 = b.drop q := ⟨_, rfl⟩
                rw [← hb2] at hk
                obtain ⟨D2, hD2⟩ : ∃ X, ar.frm D1 (ar.nat Q) = X := ⟨_, rfl⟩
                have hb2l : b2.length = b.length - q := by rw [hb2, List.length_drop]
                have hb2ok : bytesOk b2 := fun x hx => hbok x (by rw [hb2] at hx; exact List.mem_of_mem_drop hx)
                have hD2b : D2 = b2.map b8 := by rw [← hD2, hnQ, frmIs har, hD1b, hb2, List.map_drop]
                have hD2l : ar.len D2 = (b2.length : Int) := by rw [lenIs har, hD2b, List.length_map]
                have hD2n : D2.length = b2.length := by rw [hD2b, List.length_map]
                have hD2y : ∀ z ∈ D2, rlen z = 1 := by rw [hD2b]; exact b8_all _
                obtain ⟨Y, hY⟩ : ∃ X, D2 ++ sd = X := ⟨_, rfl⟩
                have hcat2 : catS ar D2 sd = Y := by rw [har, ← hY]; exact catS_eq _ _
                have sQ2 : (0 : Int) ≤ Q ∧ Q ≤ (D1.length : Int) ∧ (∀ z ∈ D1, rlen z = 1) ∧ ∀ z ∈ sd, rlen z = 1 := ⟨by omega, by omega, hD1y, hsd⟩
                obtain ⟨G, hG⟩ : ∃ F, F = w4 b2.length := ⟨_, rfl⟩
                obtain ⟨Z2, hZ2⟩ : ∃ Z : Int, Z = cmpN v b2.length := ⟨_, rfl⟩
                have hcv : ar.cv .u64 (ar.len D2) = (b2.length : Int) := by rw [hD2l, cvU64 har (by omega)]
                have callF2 : ∀ (Γ : Ctx) (d' : Nat) (k : List PR → Prop), Γ = ctx Tryd.prog d' → k [.a [.r 4 G]] → Γ.g 41 [.s (.v (.int .u64 (ar.cv .u64 (ar.len D2))))] k := fun Γ d' k hΓ hk => call_by' hΓ u256From_sound ⟨b2.length, by rw [hcv], by omega, by unfold pw; rw [← hG]; exact hk⟩
                have callC2 : ∀ (Γ : Ctx) (d' : Nat) (k : List PR → Prop), Γ = ctx Tryd.prog d' → k [.s (.v (.int .i64 Z2))] → Γ.g 40 [.a [.r 4 [.int .u64 V, .int .u64 0, .int .u64 0, .int .u64 0]], .a [.r 4 G]] k := fun Γ d' k hΓ hk => call_by' hΓ u256Cmp_sound ⟨v, b2.length, by unfold pw; rw [hw, hG], hvM, Nat.lt_of_le_of_lt (show b2.length ≤ 2 ^ 40 by omega) (by decide), by rw [← hZ2]; exact hk⟩
                conv at hD2 => lhs; cbv
                conv at hcat2 => lhs; cbv
                conv => cbv
                refine ⟨fun _ => sQ2, ?_⟩
                rw [hD2]
                refine ⟨by rw [har]; kernel_rfl, ?_⟩
                refine callF2 _ _ _ hΓ ?_
                conv => cbv
                refine callC2 _ _ _ hΓ ?_
                conv => cbv
                refine ⟨fun h => ?_, fun h => ?_⟩
                · have g7 := cGt har (a := Z2) (b := 0) h
                  have hvb : b2.length < v := cmpN_gt (hZ2 ▸ g7)
                  have hk := hk [] [] (by simp) (by simp)
                  rw [if_pos hvb] at hk
                  conv => cbv
                  exact hk
                · have g7 := cNgt har (a := Z2) (b := 0) h
                  have hvb : v ≤ b2.length := cmpN_le (hZ2 ▸ g7)
                  rw [if_neg (Nat.not_lt.2 hvb)] at hk
                  obtain ⟨P, hP⟩ : ∃ P, ar.cv .i64 V = P := ⟨_, rfl⟩
                  have hPv : P = (v : Int) := by rw [← hP, cvI64 har (by omega), hV]
                  conv at hP => lhs; cbv
                  conv => cbv
                  rw [hP]
                  have s12 : (0 : Int) ≤ P ∧ (P ≤ ((D2.length + sd.length : Nat) : Int) ∨ b2.length < v) := by omega
                  have hnat2 : ar.nat P = v := natOf har hPv
                  refine ⟨fun h => ?_, fun h => ?_⟩
                  · have g := cLt har (a := ar.len D2) (b := P) h
                    have hk := hk [] [] (by simp) (by simp)
                    simp only [cutF, if_pos (show b2.length < v by omega)] at hk
                    conv => cbv
                    exact hk
                  · have g := cNlt har (a := ar.len D2) (b := P) h
                    have hle : v ≤ b2.length := by omega
                    have s12 : (0 : Int) ≤ P ∧ P ≤ ((D2.length + sd.length : Nat) : Int) := by omega
                    have s22 : (0 : Int) ≤ P ∧ P ≤ (D2.length : Int) ∧ (∀ z ∈ D2, rlen z = 1) ∧ ∀ z ∈ sd, rlen z = 1 := ⟨by omega, by omega, hD2y, hsd⟩
                    rw [show cutF true v b2 = if true = false ∧ v = 1 ∧ b2.getD 0 0 < 128 then (false, [], [], 71) else (true, b2.take v, b2.drop v, 0) from by unfold cutF; rw [if_neg (Nat.not_lt.2 hle)]] at hk
                    have e1 : ar.mid Y 0 (ar.nat P) = (b2.take v).map b8 := by rw [hnat2, midIs har, ← hY, List.drop_zero, List.take_append_of_le_length (by omega), hD2b, List.map_take]
                    have e3 : ar.frm D2 (ar.nat P) = (b2.drop v).map b8 := by rw [hnat2, frmIs har, hD2b, List.map_drop]
                    have e4 : ∀ z ∈ ar.frm Y (ar.nat P), rlen z = 1 := by
                      rw [hnat2, frmIs har, ← hY, List.drop_append_of_le_length (by omega)]
                      intro z hz
                      rcases List.mem_append.1 hz with hz | hz
                      · exact hD2y z (List.mem_of_mem_drop hz)
                      · exact hsd z hz
                    have hkF : ¬ (true = false ∧ v = 1 ∧ b2.getD 0 0 < 128) → k [.s (.v (.bool true)), .s (.sl (ar.mid Y 0 (ar.nat P)) (ar.frm Y (ar.nat P))), .s (.sl (ar.frm D2 (ar.nat P)) sd), .s (.v (.int .i64 0))] := fun hc => by
                      have hk := hk (ar.frm Y (ar.nat P)) sd e4 hsd
                      rw [if_neg hc] at hk
                      rw [← e1, ← e3] at hk
                      exact hk
                    have hkE : (true = false ∧ v = 1 ∧ b2.getD 0 0 < 128) → k [.s (.v (.bool false)), .s (.sl [] []), .s (.sl [] []), .s (.v (.int .i64 71))] := fun hc => by
                      have hk := hk [] [] (by simp) (by simp)
                      rw [if_pos hc] at hk
                      exact hk
                    clear e1 e3 e4 hk
                    conv => cbv
                    refine onF nL ?_
                    conv => cbv
                    refine ⟨by rw [har]; kernel_rfl, ?_⟩
                    rw [hcat2]
                    exact ⟨fun _ => s12, fun _ => s22, hkF (by simp)⟩
            · have g5 := cEq har (a := b0) (b := 0) h
              have hk := hk [] [] (by simp) (by simp)
              rw [if_pos (.inl (by rw [hgb]; exact g5))] at hk
              conv => cbv
              exact hk
        · have g3 := cNgt har (a := N) (b := 55) h
          simp only [cutL, if_neg (show ¬ 55 < n by omega)] at hk
          conv => cbv
          try rw [hN]
          have s11 : (0 : Int) ≤ N ∧ (N ≤ ((D1.length + sd.length : Nat) : Int) ∨ b.length < n) := by omega
          have hnat1 : ar.nat N = n := natOf har hNn
          refine ⟨fun h => ?_, fun h => ?_⟩
          · have g := cLt har (a := ar.len D1) (b := N) h
            have hk := hk [] [] (by simp) (by simp)
            simp only [cutF, if_pos (show b.length < n by omega)] at hk
            conv => cbv
            exact hk
          · have g := cNlt har (a := ar.len D1) (b := N) h
            have hle : n ≤ b.length := by omega
            have s11 : (0 : Int) ≤ N ∧ N ≤ ((D1.length + sd.length : Nat) : Int) := by omega
            have s21 : (0 : Int) ≤ N ∧ N ≤ (D1.length : Int) ∧ (∀ z ∈ D1, rlen z = 1) ∧ ∀ z ∈ sd, rlen z = 1 := ⟨by omega, by omega, hD1y, hsd⟩
            rw [show cutF true n b = if true = false ∧ n = 1 ∧ b.getD 0 0 < 128 then (false, [], [], 71) else (true, b.take n, b.drop n, 0) from by unfold cutF; rw [if_neg (Nat.not_lt.2 hle)]] at hk
            have e1 : ar.mid X 0 (ar.nat N) = (b.take n).map b8 := by rw [hnat1, midIs har, ← hX, List.drop_zero, List.take_append_of_le_length (by omega), hD1b, List.map_take]
            have e3 : ar.frm D1 (ar.nat N) = (b.drop n).map b8 := by rw [hnat1, frmIs har, hD1b, List.map_drop]
            have e4 : ∀ z ∈ ar.frm X (ar.nat N), rlen z = 1 := by
              rw [hnat1, frmIs har, ← hX, List.drop_append_of_le_length (by omega)]
              intro z hz
              rcases List.mem_append.1 hz with hz | hz
              · exact hD1y z (List.mem_of_mem_drop hz)
              · exact hsd z hz
            have hkF : ¬ (true = false ∧ n = 1 ∧ b.getD 0 0 < 128) → k [.s (.v (.bool true)), .s (.sl (ar.mid X 0 (ar.nat N)) (ar.frm X (ar.nat N))), .s (.sl (ar.frm D1 (ar.nat N)) sd), .s (.v (.int .i64 0))] := fun hc => by
              have hk := hk (ar.frm X (ar.nat N)) sd e4 hsd
              rw [if_neg hc] at hk
              rw [← e1, ← e3] at hk
              exact hk
            have hkE : (true = false ∧ n = 1 ∧ b.getD 0 0 < 128) → k [.s (.v (.bool false)), .s (.sl [] []), .s (.sl [] []), .s (.v (.int .i64 71))] := fun hc => by
              have hk := hk [] [] (by simp) (by simp)
              rw [if_pos hc] at hk
              exact hk
            clear e1 e3 e4 hk
            conv => cbv
            refine onF nL ?_
            conv => cbv
            refine ⟨by rw [har]; kernel_rfl, ?_⟩
            rw [hcat1]
            exact ⟨fun _ => s11, fun _ => s21, hkF (by simp)⟩
      · have g2 := cNge har (a := c) (b := 192) h
        obtain ⟨n, hn⟩ : ∃ n, n = (c - 128).toNat := ⟨_, rfl⟩
        obtain ⟨N, hN⟩ : ∃ N, ar.cv .i64 (ar.ib .sub .u8 c 128) = N := ⟨_, rfl⟩
        have hNn : N = (n : Int) := by rw [← hN, iIs har, show intB .sub .u8 c 128 = IntKind.u8.wrap (c - 128) from rfl, u8Wrap, cvI64 har (by omega), hn]; omega
        have hn63 : n ≤ 63 := by omega
        have hk : ∀ sp sr : List (List PS), (∀ z ∈ sp, rlen z = 1) → (∀ z ∈ sr, rlen z = 1) → k [.s (.v (.bool (cutL false n b).1)), .s (.sl ((cutL false n b).2.1.map b8) sp), .s (.sl ((cutL false n b).2.2.1.map b8) sr), .s (.v (.int .i64 (cutL false n b).2.2.2))] := by
          have e : cutR (c :: b) = cutL false n b := by rw [hn]; simp only [cutR, if_neg (Int.not_lt.2 g), if_neg (Int.not_le.2 g2)]
          rw [e] at hk; exact hk
        conv at hN => lhs; cbv
        have nL : ar.nb false = true := by rw [har]; rfl
        rw [h]
        conv => cbv
        refine ⟨fun _ => s2, ?_⟩
        rw [hD1, hN]
        refine ⟨fun h => ?_, fun h => ?_⟩
        · have g3 := cGt har (a := N) (b := 55) h
          have hn55 : 55 < n := by omega
          obtain ⟨q, hq⟩ : ∃ q, q = n - 55 := ⟨_, rfl⟩
          obtain ⟨Q, hQ⟩ : ∃ Q, ar.ib .sub .i64 N 55 = Q := ⟨_, rfl⟩
          have hQq : Q = (q : Int) := by rw [← hQ, iSub har (by omega)]; omega
          have hq8 : 1 ≤ q ∧ q ≤ 8 := by omega
          conv at hQ => lhs; cbv
          simp only [cutL, if_pos hn55, ← hq] at hk
          conv => cbv
          rw [hQ]
          refine ⟨fun h => ?_, fun h => ?_⟩
          · have g4 := cLt har (a := ar.len D1) (b := Q) h
            have hk := hk [] [] (by simp) (by simp)
            rw [if_pos (by omega)] at hk
            conv => cbv
            exact hk
          · have g4 := cNlt har (a := ar.len D1) (b := Q) h
            have hqb : q ≤ b.length := by omega
            simp only [if_neg (Nat.not_lt.2 hqb)] at hk
            have hnQ : ar.nat Q = q := natOf har hQq
            obtain ⟨T, hT⟩ : ∃ T, ar.mid X 0 (ar.nat Q) = T := ⟨_, rfl⟩
            have hTt : T = (b.take q).map b8 := by rw [← hT, hnQ, midIs har, ← hX, List.drop_zero, List.take_append_of_le_length (by omega), hD1b, List.map_take]
            obtain ⟨v, hv⟩ : ∃ v, v = bev (b.take q) := ⟨_, rfl⟩
            have hvlt : v < 2 ^ 64 := by
              have h1 := bev_lt (l := b.take q) fun x hx => hbok x (List.mem_of_mem_take hx)
              rw [List.length_take, Nat.min_eq_left hqb, ← hv] at h1
              refine Nat.lt_of_lt_of_le h1 (Nat.le_trans (Nat.pow_le_pow_right (by omega) hq8.2) (by decide))
            rw [← hv] at hk
            obtain ⟨V, hV⟩ : ∃ V : Int, V = (v : Int) := ⟨_, rfl⟩
            have hw : w4 v = [.int .u64 V, .int .u64 0, .int .u64 0, .int .u64 0] := by
              have := w4_v4 (a := v) (b := 0) (c := 0) (d := 0) (by omega) (by omega) (by omega) (by omega)
              rw [hV]
              simpa [v4] using this
            have callG : ∀ (Γ : Ctx) (d' : Nat) (s : List (List PS)) (k : List PR → Prop) (R : Prop), Γ = ctx Tryd.prog d' → k [.a [.r 4 [.int .u64 V, .int .u64 0, .int .u64 0, .int .u64 0]], .s (.v (.int .i64 0))] → Γ.g 85 [.s (.sl T s)] k ∨ R := fun Γ d' s k R hΓ hk => call_by hΓ u256Get_sound ⟨b.take q, s, by rw [hTt], fun x hx => hbok x (List.mem_of_mem_take hx), by rw [List.length_take]; omega, by unfold pw; rw [← hv, hw]; exact hk⟩
            have sQ : (0 : Int) ≤ Q ∧ Q ≤ ((D1.length + sd.length : Nat) : Int) := by omega
            conv at hT => lhs; cbv
            conv => cbv
            rw [hcat1, hT]
            refine ⟨fun _ => sQ, ?_⟩
            refine callG _ _ _ _ _ hΓ ?_
            obtain ⟨b0, bt, hbb⟩ : ∃ b0 bt, b = b0 :: bt := by
              cases b with
              | nil => exact absurd hqb (by rw [List.length_nil]; omega)
              | cons b0 bt => exact ⟨b0, bt, rfl⟩
            have rb1 : D1[(0 : Int).toNat]? = some [.c (.v (.int .u8 b0))] := by rw [hD1b, hbb]; rfl
            conv => cbv
            refine ⟨by rw [har]; kernel_rfl, _, hb0, rb1, rfl, ?_⟩
            conv => cbv
            have hvM : v < M256 := Nat.lt_trans hvlt (by decide)
            obtain ⟨F, hF⟩ : ∃ F, F = w4 55 := ⟨_, rfl⟩
            obtain ⟨Z, hZ⟩ : ∃ Z : Int, Z = cmpN v 55 := ⟨_, rfl⟩
            have callF : ∀ (Γ : Ctx) (d' : Nat) (k : List PR → Prop), Γ = ctx Tryd.prog d' → k [.a [.r 4 F]] → Γ.g 41 [.s (.v (.int .u64 55))] k := fun Γ d' k hΓ hk => call_by' hΓ u256From_sound ⟨55, rfl, by omega, by unfold pw; rw [← hF]; exact hk⟩
            have callC : ∀ (Γ : Ctx) (d' : Nat) (k : List PR → Prop), Γ = ctx Tryd.prog d' → k [.s (.v (.int .i64 Z))] → Γ.g 40 [.a [.r 4 [.int .u64 V, .int .u64 0, .int .u64 0, .int .u64 0]], .a [.r 4 F]] k := fun Γ d' k hΓ hk => call_by' hΓ u256Cmp_sound ⟨v, 55, by unfold pw; rw [hw, hF], hvM, by decide, by rw [← hZ]; exact hk⟩
            have hgb : b.getD 0 0 = b0 := by rw [hbb]; rfl
            refine ⟨fun h => ?_, fun h => ?_⟩
            · have g5 := cNeq har (a := b0) (b := 0) h
              conv => cbv
              refine callF _ _ _ hΓ ?_
              conv => cbv
              refine callC _ _ _ hΓ ?_
              conv => cbv
              refine ⟨fun h => ?_, fun h => ?_⟩
              · have g6 := cLe har (a := Z) (b := 0) h
                have hv55 : v ≤ 55 := cmpN_le (hZ ▸ g6)
                have hk := hk [] [] (by simp) (by simp)
                rw [if_pos (.inr hv55)] at hk
                conv => cbv
                exact hk
              · have g6 := cNle har (a := Z) (b := 0) h
                have hv55 : 55 < v := cmpN_gt (hZ ▸ g6)
                rw [if_neg (show ¬ (b.getD 0 0 = 0 ∨ v ≤ 55) by rw [hgb]; omega)] at hk
                obtain ⟨b2, hb2⟩ : ∃ b2, b2 = b.drop q := ⟨_, rfl⟩
                rw [← hb2] at hk
                obtain ⟨D2, hD2⟩ : ∃ X, ar.frm D1 (ar.nat Q) = X := ⟨_, rfl⟩
                have hb2l : b2.length = b.length - q := by rw [hb2, List.length_drop]
                have hb2ok : bytesOk b2 := fun x hx => hbok x (by rw [hb2] at hx; exact List.mem_of_mem_drop hx)
                have hD2b : D2 = b2.map b8 := by rw [← hD2, hnQ, frmIs har, hD1b, hb2, List.map_drop]
                have hD2l : ar.len D2 = (b2.length : Int) := by rw [lenIs har, hD2b, List.length_map]
                have hD2n : D2.length = b2.length := by rw [hD2b, List.length_map]
                have hD2y : ∀ z ∈ D2, rlen z = 1 := by rw [hD2b]; exact b8_all _
                obtain ⟨Y, hY⟩ : ∃ X, D2 ++ sd = X := ⟨_, rfl⟩
                have hcat2 : catS ar D2 sd = Y := by rw [har, ← hY]; exact catS_eq _ _
                have sQ2 : (0 : Int) ≤ Q ∧ Q ≤ (D1.length : Int) ∧ (∀ z ∈ D1, rlen z = 1) ∧ ∀ z ∈ sd, rlen z = 1 := ⟨by omega, by omega, hD1y, hsd⟩
                obtain ⟨G, hG⟩ : ∃ F, F = w4 b2.length := ⟨_, rfl⟩
                obtain ⟨Z2, hZ2⟩ : ∃ Z : Int, Z = cmpN v b2.length := ⟨_, rfl⟩
                have hcv : ar.cv .u64 (ar.len D2) = (b2.length : Int) := by rw [hD2l, cvU64 har (by omega)]
                have callF2 : ∀ (Γ : Ctx) (d' : Nat) (k : List PR → Prop), Γ = ctx Tryd.prog d' → k [.a [.r 4 G]] → Γ.g 41 [.s (.v (.int .u64 (ar.cv .u64 (ar.len D2))))] k := fun Γ d' k hΓ hk => call_by' hΓ u256From_sound ⟨b2.length, by rw [hcv], by omega, by unfold pw; rw [← hG]; exact hk⟩
                have callC2 : ∀ (Γ : Ctx) (d' : Nat) (k : List PR → Prop), Γ = ctx Tryd.prog d' → k [.s (.v (.int .i64 Z2))] → Γ.g 40 [.a [.r 4 [.int .u64 V, .int .u64 0, .int .u64 0, .int .u64 0]], .a [.r 4 G]] k := fun Γ d' k hΓ hk => call_by' hΓ u256Cmp_sound ⟨v, b2.length, by unfold pw; rw [hw, hG], hvM, Nat.lt_of_le_of_lt (show b2.length ≤ 2 ^ 40 by omega) (by decide), by rw [← hZ2]; exact hk⟩
                conv at hD2 => lhs; cbv
                conv at hcat2 => lhs; cbv
                conv => cbv
                refine ⟨fun _ => sQ2, ?_⟩
                rw [hD2]
                refine ⟨by rw [har]; kernel_rfl, ?_⟩
                refine callF2 _ _ _ hΓ ?_
                conv => cbv
                refine callC2 _ _ _ hΓ ?_
                conv => cbv
                refine ⟨fun h => ?_, fun h => ?_⟩
                · have g7 := cGt har (a := Z2) (b := 0) h
                  have hvb : b2.length < v := cmpN_gt (hZ2 ▸ g7)
                  have hk := hk [] [] (by simp) (by simp)
                  rw [if_pos hvb] at hk
                  conv => cbv
                  exact hk
                · have g7 := cNgt har (a := Z2) (b := 0) h
                  have hvb : v ≤ b2.length := cmpN_le (hZ2 ▸ g7)
                  rw [if_neg (Nat.not_lt.2 hvb)] at hk
                  obtain ⟨P, hP⟩ : ∃ P, ar.cv .i64 V = P := ⟨_, rfl⟩
                  have hPv : P = (v : Int) := by rw [← hP, cvI64 har (by omega), hV]
                  conv at hP => lhs; cbv
                  conv => cbv
                  rw [hP]
                  have s12 : (0 : Int) ≤ P ∧ (P ≤ ((D2.length + sd.length : Nat) : Int) ∨ b2.length < v) := by omega
                  have hnat2 : ar.nat P = v := natOf har hPv
                  refine ⟨fun h => ?_, fun h => ?_⟩
                  · have g := cLt har (a := ar.len D2) (b := P) h
                    have hk := hk [] [] (by simp) (by simp)
                    simp only [cutF, if_pos (show b2.length < v by omega)] at hk
                    conv => cbv
                    exact hk
                  · have g := cNlt har (a := ar.len D2) (b := P) h
                    have hle : v ≤ b2.length := by omega
                    have s12 : (0 : Int) ≤ P ∧ P ≤ ((D2.length + sd.length : Nat) : Int) := by omega
                    have s22 : (0 : Int) ≤ P ∧ P ≤ (D2.length : Int) ∧ (∀ z ∈ D2, rlen z = 1) ∧ ∀ z ∈ sd, rlen z = 1 := ⟨by omega, by omega, hD2y, hsd⟩
                    rw [show cutF false v b2 = if false = false ∧ v = 1 ∧ b2.getD 0 0 < 128 then (false, [], [], 71) else (false, b2.take v, b2.drop v, 0) from by unfold cutF; rw [if_neg (Nat.not_lt.2 hle)]] at hk
                    have e1 : ar.mid Y 0 (ar.nat P) = (b2.take v).map b8 := by rw [hnat2, midIs har, ← hY, List.drop_zero, List.take_append_of_le_length (by omega), hD2b, List.map_take]
                    have e3 : ar.frm D2 (ar.nat P) = (b2.drop v).map b8 := by rw [hnat2, frmIs har, hD2b, List.map_drop]
                    have e4 : ∀ z ∈ ar.frm Y (ar.nat P), rlen z = 1 := by
                      rw [hnat2, frmIs har, ← hY, List.drop_append_of_le_length (by omega)]
                      intro z hz
                      rcases List.mem_append.1 hz with hz | hz
                      · exact hD2y z (List.mem_of_mem_drop hz)
                      · exact hsd z hz
                    have hkF : ¬ (false = false ∧ v = 1 ∧ b2.getD 0 0 < 128) → k [.s (.v (.bool false)), .s (.sl (ar.mid Y 0 (ar.nat P)) (ar.frm Y (ar.nat P))), .s (.sl (ar.frm D2 (ar.nat P)) sd), .s (.v (.int .i64 0))] := fun hc => by
                      have hk := hk (ar.frm Y (ar.nat P)) sd e4 hsd
                      rw [if_neg hc] at hk
                      rw [← e1, ← e3] at hk
                      exact hk
                    have hkE : (false = false ∧ v = 1 ∧ b2.getD 0 0 < 128) → k [.s (.v (.bool false)), .s (.sl [] []), .s (.sl [] []), .s (.v (.int .i64 71))] := fun hc => by
                      have hk := hk [] [] (by simp) (by simp)
                      rw [if_pos hc] at hk
                      exact hk
                    clear e1 e3 e4 hk
                    conv => cbv
                    refine onT nL ?_
                    conv => cbv
                    refine ⟨fun h => ?_, fun h => ?_⟩
                    · have g5 := cEq har (a := P) (b := 1) h
                      obtain ⟨b1, bt1, hbb1⟩ : ∃ b0 bt, b2 = b0 :: bt := by
                        cases hB : b2 with
                        | nil => rw [hB, List.length_nil] at hle; omega
                        | cons b0 bt => exact ⟨b0, bt, rfl⟩
                      have rb2 : D2[(0 : Int).toNat]? = some [.c (.v (.int .u8 b1))] := by rw [hD2b, hbb1]; rfl
                      have hg : b2.getD 0 0 = b1 := by rw [hbb1]; rfl
                      conv => cbv
                      refine ⟨_, hb0, rb2, rfl, ?_⟩
                      conv => cbv
                      refine ⟨fun h => ?_, fun h => ?_⟩
                      · have g6 := cLt har (a := b1) (b := 128) h
                        have hkE := hkE ⟨rfl, by omega, by rw [hg]; exact g6⟩
                        conv => cbv
                        exact hkE
                      · have g6 := cNlt har (a := b1) (b := 128) h
                        conv => cbv
                        refine ⟨by rw [har]; kernel_rfl, ?_⟩
                        rw [hcat2]
                        exact ⟨fun _ => s12, fun _ => s22, hkF (fun hc => by rw [hg] at hc; omega)⟩
                    · have g5 := cNeq har (a := P) (b := 1) h
                      conv => cbv
                      refine ⟨by rw [har]; kernel_rfl, ?_⟩
                      rw [hcat2]
                      exact ⟨fun _ => s12, fun _ => s22, hkF (fun hc => by omega)⟩
            · have g5 := cEq har (a := b0) (b := 0) h
              have hk := hk [] [] (by simp) (by simp)
              rw [if_pos (.inl (by rw [hgb]; exact g5))] at hk
              conv => cbv
              exact hk
        · have g3 := cNgt har (a := N) (b := 55) h
          simp only [cutL, if_neg (show ¬ 55 < n by omega)] at hk
          conv => cbv
          try rw [hN]
          have s11 : (0 : Int) ≤ N ∧ (N ≤ ((D1.length + sd.length : Nat) : Int) ∨ b.length < n) := by omega
          have hnat1 : ar.nat N = n := natOf har hNn
          refine ⟨fun h => ?_, fun h => ?_⟩
          · have g := cLt har (a := ar.len D1) (b := N) h
            have hk := hk [] [] (by simp) (by simp)
            simp only [cutF, if_pos (show b.length < n by omega)] at hk
            conv => cbv
            exact hk
          · have g := cNlt har (a := ar.len D1) (b := N) h
            have hle : n ≤ b.length := by omega
            have s11 : (0 : Int) ≤ N ∧ N ≤ ((D1.length + sd.length : Nat) : Int) := by omega
            have s21 : (0 : Int) ≤ N ∧ N ≤ (D1.length : Int) ∧ (∀ z ∈ D1, rlen z = 1) ∧ ∀ z ∈ sd, rlen z = 1 := ⟨by omega, by omega, hD1y, hsd⟩
            rw [show cutF false n b = if false = false ∧ n = 1 ∧ b.getD 0 0 < 128 then (false, [], [], 71) else (false, b.take n, b.drop n, 0) from by unfold cutF; rw [if_neg (Nat.not_lt.2 hle)]] at hk
            have e1 : ar.mid X 0 (ar.nat N) = (b.take n).map b8 := by rw [hnat1, midIs har, ← hX, List.drop_zero, List.take_append_of_le_length (by omega), hD1b, List.map_take]
            have e3 : ar.frm D1 (ar.nat N) = (b.drop n).map b8 := by rw [hnat1, frmIs har, hD1b, List.map_drop]
            have e4 : ∀ z ∈ ar.frm X (ar.nat N), rlen z = 1 := by
              rw [hnat1, frmIs har, ← hX, List.drop_append_of_le_length (by omega)]
              intro z hz
              rcases List.mem_append.1 hz with hz | hz
              · exact hD1y z (List.mem_of_mem_drop hz)
              · exact hsd z hz
            have hkF : ¬ (false = false ∧ n = 1 ∧ b.getD 0 0 < 128) → k [.s (.v (.bool false)), .s (.sl (ar.mid X 0 (ar.nat N)) (ar.frm X (ar.nat N))), .s (.sl (ar.frm D1 (ar.nat N)) sd), .s (.v (.int .i64 0))] := fun hc => by
              have hk := hk (ar.frm X (ar.nat N)) sd e4 hsd
              rw [if_neg hc] at hk
              rw [← e1, ← e3] at hk
              exact hk
            have hkE : (false = false ∧ n = 1 ∧ b.getD 0 0 < 128) → k [.s (.v (.bool false)), .s (.sl [] []), .s (.sl [] []), .s (.v (.int .i64 71))] := fun hc => by
              have hk := hk [] [] (by simp) (by simp)
              rw [if_pos hc] at hk
              exact hk
            clear e1 e3 e4 hk
            conv => cbv
            refine onT nL ?_
            conv => cbv
            refine ⟨fun h => ?_, fun h => ?_⟩
            · have g5 := cEq har (a := N) (b := 1) h
              obtain ⟨b1, bt1, hbb1⟩ : ∃ b0 bt, b = b0 :: bt := by
                cases hB : b with
                | nil => rw [hB, List.length_nil] at hle; omega
                | cons b0 bt => exact ⟨b0, bt, rfl⟩
              have rb2 : D1[(0 : Int).toNat]? = some [.c (.v (.int .u8 b1))] := by rw [hD1b, hbb1]; rfl
              have hg : b.getD 0 0 = b1 := by rw [hbb1]; rfl
              conv => cbv
              refine ⟨_, hb0, rb2, rfl, ?_⟩
              conv => cbv
              refine ⟨fun h => ?_, fun h => ?_⟩
              · have g6 := cLt har (a := b1) (b := 128) h
                have hkE := hkE ⟨rfl, by omega, by rw [hg]; exact g6⟩
                conv => cbv
                exact hkE
              · have g6 := cNlt har (a := b1) (b := 128) h
                conv => cbv
                refine ⟨by rw [har]; kernel_rfl, ?_⟩
                rw [hcat1]
                exact ⟨fun _ => s11, fun _ => s21, hkF (fun hc => by rw [hg] at hc; omega)⟩
            · have g5 := cNeq har (a := N) (b := 1) h
              conv => cbv
              refine ⟨by rw [har]; kernel_rfl, ?_⟩
              rw [hcat1]
              exact ⟨fun _ => s11, fun _ => s21, hkF (fun hc => by omega)⟩
end Go.Eng
namespace Go.Eng
open Go Go.Proofs
set_option linter.unusedSectionVars false
set_option linter.unusedVariables false

theorem cutF_len {l : Bool} {n : Nat} {b : List Int} (h : (cutF l n b).2.2.2 = 0) : (cutF l n b).2.1.length + (cutF l n b).2.2.1.length = b.length ∧ (cutF l n b).1 = l := by
  revert h
  unfold cutF
  split
  · intro h; cases h
  · split
    · intro h; cases h
    · intro _
      simp only [List.length_take, List.length_drop]
      exact ⟨by omega, trivial⟩

theorem cutL_len {l : Bool} {n : Nat} {b : List Int} (h : (cutL l n b).2.2.2 = 0) : (cutL l n b).2.1.length + (cutL l n b).2.2.1.length ≤ b.length ∧ (cutL l n b).1 = l := by
  revert h
  unfold cutL
  split
  · split
    · intro h; cases h
    · split
      · intro h; cases h
      · split
        · intro h; cases h
        · intro h
          have := cutF_len h
          rw [List.length_drop] at this
          exact ⟨by omega, this.2⟩
  · intro h
    have := cutF_len h
    exact ⟨by omega, this.2⟩

theorem cutR_len {d : List Int} (h : (cutR d).2.2.2 = 0) : (cutR d).2.2.1.length < d.length ∧ (cutR d).2.1.length ≤ d.length ∧ ((cutR d).1 = true → (cutR d).2.1.length + (cutR d).2.2.1.length < d.length) := by
  revert h
  cases d with
  | nil => intro h; cases h
  | cons c b =>
    simp only [cutR]
    split
    · intro _
      exact ⟨by simp, by simp, by simp⟩
    · split
      · intro h
        have := (cutL_len h).1
        rw [List.length_cons]
        exact ⟨by omega, by omega, by omega⟩
      · intro h
        have := (cutL_len h).1
        rw [List.length_cons]
        exact ⟨by omega, by omega, by omega⟩

theorem cutF_sub {P : Int → Prop} {l : Bool} {n : Nat} {b : List Int} (hb : ∀ x ∈ b, P x) : (∀ x ∈ (cutF l n b).2.1, P x) ∧ ∀ x ∈ (cutF l n b).2.2.1, P x := by
  unfold cutF
  split
  · exact ⟨by simp, by simp⟩
  · split
    · exact ⟨by simp, by simp⟩
    · exact ⟨fun x hx => hb x (List.mem_of_mem_take hx), fun x hx => hb x (List.mem_of_mem_drop hx)⟩

theorem cutL_sub {P : Int → Prop} {l : Bool} {n : Nat} {b : List Int} (hb : ∀ x ∈ b, P x) : (∀ x ∈ (cutL l n b).2.1, P x) ∧ ∀ x ∈ (cutL l n b).2.2.1, P x := by
  unfold cutL
  split
  · split
    · exact ⟨by simp, by simp⟩
    · split
      · exact ⟨by simp, by simp⟩
      · split
        · exact ⟨by simp, by simp⟩
        · exact cutF_sub fun x hx => hb x (List.mem_of_mem_drop hx)
  · exact cutF_sub hb

theorem cutR_sub {P : Int → Prop} {d : List Int} (hb : ∀ x ∈ d, P x) : (∀ x ∈ (cutR d).2.1, P x) ∧ ∀ x ∈ (cutR d).2.2.1, P x := by
  cases d with
  | nil => exact ⟨by simp [cutR], by simp [cutR]⟩
  | cons c b =>
    have h1 := hb c (by simp)
    have h2 : ∀ x ∈ b, P x := fun x hx => hb x (by simp [hx])
    simp only [cutR]
    split
    · exact ⟨by simpa using h1, h2⟩
    · split
      · exact cutL_sub h2
      · exact cutL_sub h2

/-- The items in bytes, within w lists. -/
def dL : Nat → Nat → List Int → Except Int (List It)
  | _, _, [] => .ok []
  | 0, _, _ :: _ => .error 0
  | f + 1, w, c :: p => if (cutR (c :: p)).2.2.2 = 0 then
      if (cutR (c :: p)).1 = true then
        if w = 1024 then .error 74 else match dL f (w + 1) (cutR (c :: p)).2.1 with
          | .error e => .error e
          | .ok its => match dL f w (cutR (c :: p)).2.2.1 with
            | .error e => .error e
            | .ok xs => .ok (.lst its :: xs)
      else match dL f w (cutR (c :: p)).2.2.1 with
        | .error e => .error e
        | .ok xs => .ok (.txt (cutR (c :: p)).2.1 :: xs)
    else .error (cutR (c :: p)).2.2.2

theorem dL_fuel : ∀ (f f' w : Nat) (p : List Int), p.length ≤ f → p.length ≤ f' → dL f w p = dL f' w p
  | 0, f', w, p, h, h' => by
    have : p = [] := List.eq_nil_of_length_eq_zero (by omega)
    subst this
    cases f' <;> rfl
  | f + 1, 0, w, p, h, h' => by
    have : p = [] := List.eq_nil_of_length_eq_zero (by omega)
    subst this
    rfl
  | f + 1, f' + 1, w, [], h, h' => rfl
  | f + 1, f' + 1, w, c :: p, h, h' => by
    rw [List.length_cons] at h h'
    simp only [dL]
    by_cases he : (cutR (c :: p)).2.2.2 = 0
    · obtain ⟨h1, _, h3⟩ := cutR_len he
      rw [List.length_cons] at h1 h3
      rw [if_pos he, if_pos he]
      rw [dL_fuel f f' w (cutR (c :: p)).2.2.1 (by omega) (by omega)]
      by_cases hl : (cutR (c :: p)).1 = true
      · rw [if_pos hl, if_pos hl]
        have := h3 hl
        rw [dL_fuel f f' (w + 1) (cutR (c :: p)).2.1 (by omega) (by omega)]
      · rw [if_neg hl, if_neg hl]
    · rw [if_neg he, if_neg he]

def dec (w : Nat) (p : List Int) : Except Int (List It) := dL p.length w p

theorem dec_nil (w : Nat) : dec w [] = .ok [] := rfl

theorem dec_cons (w : Nat) {p : List Int} (hp : p ≠ []) : dec w p = if (cutR p).2.2.2 = 0 then
      if (cutR p).1 = true then
        if w = 1024 then .error 74 else match dec (w + 1) (cutR p).2.1 with
          | .error e => .error e
          | .ok its => match dec w (cutR p).2.2.1 with
            | .error e => .error e
            | .ok xs => .ok (.lst its :: xs)
      else match dec w (cutR p).2.2.1 with
        | .error e => .error e
        | .ok xs => .ok (.txt (cutR p).2.1 :: xs)
    else .error (cutR p).2.2.2 := by
  cases p with
  | nil => exact absurd rfl hp
  | cons c p =>
    unfold dec
    rw [List.length_cons]
    simp only [dL]
    by_cases he : (cutR (c :: p)).2.2.2 = 0
    · obtain ⟨h1, _, h3⟩ := cutR_len he
      rw [List.length_cons] at h1 h3
      rw [if_pos he, if_pos he]
      rw [dL_fuel p.length (cutR (c :: p)).2.2.1.length w (cutR (c :: p)).2.2.1 (by omega) (by omega)]
      by_cases hl : (cutR (c :: p)).1 = true
      · rw [if_pos hl, if_pos hl]
        have := h3 hl
        rw [dL_fuel p.length (cutR (c :: p)).2.1.length (w + 1) (cutR (c :: p)).2.1 (by omega) (by omega)]
      · rw [if_neg hl, if_neg hl]
    · rw [if_neg he, if_neg he]

/-- A list that is being read: its items so far, the bytes behind it (and what stands behind these). -/
structure Opn where
  its : List It
  bh : List Int
  sb : List (List PS)

def cEnd : List Opn → It → List Int → Except Int It
  | [], it, b => if b = [] then .ok it else .error 73
  | o :: S, it, b => match dec (S.length + 1) b with
    | .error e => .error e
    | .ok xs => cEnd S (.lst (o.its ++ it :: xs)) o.bh

def cWithin (its : List It) (bh : List Int) (S : List Opn) (b : List Int) : Except Int It :=
  match dec (S.length + 1) b with
  | .error e => .error e
  | .ok xs => cEnd S (.lst (its ++ xs)) bh

def cItem (S : List Opn) (b : List Int) : Except Int It :=
  if (cutR b).2.2.2 = 0 then
    if (cutR b).1 = true then (if S.length = 1024 then .error 74 else cWithin [] (cutR b).2.2.1 S (cutR b).2.1)
    else cEnd S (.txt (cutR b).2.1) (cutR b).2.2.1
  else .error (cutR b).2.2.2

theorem cEnd_cons (o : Opn) (S : List Opn) (it : It) (b : List Int) : cEnd (o :: S) it b = cWithin (o.its ++ [it]) o.bh S b := by
  simp only [cEnd, cWithin, List.append_assoc, List.singleton_append]

theorem cWithin_nil (its : List It) (bh : List Int) (S : List Opn) : cWithin its bh S [] = cEnd S (.lst its) bh := by
  simp only [cWithin, dec_nil, List.append_nil]

theorem cWithin_item (o : Opn) (S : List Opn) {b : List Int} (hb : b ≠ []) : cWithin o.its o.bh S b = cItem (o :: S) b := by
  unfold cWithin cItem
  rw [dec_cons _ hb]
  by_cases he : (cutR b).2.2.2 = 0
  · rw [if_pos he, if_pos he]
    by_cases hl : (cutR b).1 = true
    · rw [if_pos hl, if_pos hl, List.length_cons]
      by_cases hw : S.length + 1 = 1024
      · rw [if_pos hw, if_pos hw]
      · rw [if_neg hw, if_neg hw]
        unfold cWithin
        rw [List.length_cons]
        cases dec (S.length + 1 + 1) (cutR b).2.1 with
        | error e => rfl
        | ok its =>
          simp only [cEnd, List.nil_append]
          cases dec (S.length + 1) (cutR b).2.2.1 with
          | error e => rfl
          | ok xs => rfl
    · rw [if_neg hl, if_neg hl]
      simp only [cEnd]
      cases dec (S.length + 1) (cutR b).2.2.1 with
      | error e => rfl
      | ok xs => rfl
  · rw [if_neg he, if_neg he]

/-- What the one item in bytes is. -/
def decR (d : List Int) : Except Int It := if 16777216 < d.length then .error 2 else cItem [] d

/-- An open list's row on the stack. -/
def Opn.row (o : Opn) : List PS := [.c (.ow (rowsOf o.its) 51 3 56), .c (.sl (o.bh.map b8) o.sb)]
def rowsS (S : List Opn) : List (List PS) := (S.map Opn.row).reverse
def Opn.ok (o : Opn) : Prop := bytesOk o.bh ∧ ∀ z ∈ o.sb, rlen z = 1

theorem rowsS_length (S : List Opn) : (rowsS S).length = S.length := by simp [rowsS]
theorem rowsS_cons (o : Opn) (S : List Opn) : rowsS (o :: S) = rowsS S ++ [o.row] := by simp [rowsS]
theorem rowsS_last (o : Opn) (S : List Opn) : (rowsS (o :: S))[S.length]? = some o.row := by
  rw [rowsS_cons, List.getElem?_append_right (by rw [rowsS_length]; exact Nat.le_refl _), rowsS_length, Nat.sub_self]; rfl
theorem rowsS_set (o o' : Opn) (S : List Opn) : (rowsS (o :: S)).set S.length o'.row = rowsS (o' :: S) := by
  rw [rowsS_cons, rowsS_cons, List.set_append_right _ _ (by rw [rowsS_length]; exact Nat.le_refl _), rowsS_length, Nat.sub_self]; rfl
theorem rowsS_take (o : Opn) (S : List Opn) (r : List PS) : ((rowsS (o :: S)).set S.length r).take S.length = rowsS S := by
  rw [rowsS_cons, List.set_append_right _ _ (by rw [rowsS_length]; exact Nat.le_refl _), List.take_append_of_le_length (by rw [rowsS_length]; exact Nat.le_refl _), List.take_of_length_le (by rw [rowsS_length]; exact Nat.le_refl _)]

/-- How many bytes are still to be read; how many items have been read. -/
def left (b : List Int) (S : List Opn) : Nat := b.length + (S.map fun o => o.bh.length).sum
def held (S : List Opn) : Nat := (S.map fun o => o.its.length + 1).sum

theorem held_le (S : List Opn) : S.length ≤ held S := by
  unfold held
  induction S with
  | nil => simp
  | cons o S ih => simp only [List.map_cons, List.sum_cons, List.length_cons]; omega

theorem left_eq (b : List Int) (S : List Opn) : left b S = b.length + left [] S := by simp [left]
theorem left_cons (b : List Int) (o : Opn) (S : List Opn) : left b (o :: S) = b.length + o.bh.length + left [] S := by simp [left]; omega
theorem held_cons (o : Opn) (S : List Opn) : held (o :: S) = o.its.length + 1 + held S := by simp [held]

section
variable {ar : Ar} (har : ar = arS) {X : List (List PS)} {o : Opn} {S : List Opn} (hX : X = rowsS (o :: S)) (hl : S.length ≤ 2 ^ 30)
include har hX hl

theorem dqLen : X.length = S.length + 1 := by rw [hX, rowsS_length, List.length_cons]
theorem dqIx : ar.nat (ar.ib .sub .i64 (ar.len X) 1) = S.length := by
  have e := dqLen har hX hl
  rw [lenIs har, e, iSub har (by omega)]; exact natOf har (by omega)
theorem dqB : (0 : Int) ≤ ar.ib .sub .i64 (ar.len X) 1 ∧ ar.ib .sub .i64 (ar.len X) 1 < (X.length : Int) := by
  have e := dqLen har hX hl
  rw [lenIs har, e, iSub har (by omega)]; omega
theorem dqGet {r : List PS} (hr : o.row = r) : X[ar.nat (ar.ib .sub .i64 (ar.len X) 1)]? = some r := by rw [dqIx har hX hl, hX, rowsS_last, hr]
theorem dqGet2 (r : List PS) : (ar.setx X (ar.nat (ar.ib .sub .i64 (ar.len X) 1)) r)[ar.nat (ar.ib .sub .i64 (ar.len X) 1)]? = some r := by
  have e := dqLen har hX hl
  rw [setxIs har, dqIx har hX hl, List.getElem?_set_self (by omega)]
theorem dqB2 (r : List PS) : (0 : Int) ≤ ar.ib .sub .i64 (ar.len X) 1 ∧ ar.ib .sub .i64 (ar.len X) 1 < ((ar.setx X (ar.nat (ar.ib .sub .i64 (ar.len X) 1)) r).length : Int) := by
  rw [setxIs har, List.length_set]; exact dqB har hX hl
theorem dqLenS (i : Nat) (r : List PS) : ar.len (ar.setx X i r) = ar.len X := by rw [lenIs har, lenIs har, setxIs har, List.length_set]
/-- The row that has been put back. -/
theorem dqPut {o' : Opn} {r1 r2 r : List PS} (hr : o'.row = r) : ar.setx (ar.setx (ar.setx X (ar.nat (ar.ib .sub .i64 (ar.len X) 1)) r1) (ar.nat (ar.ib .sub .i64 (ar.len X) 1)) r2) (ar.nat (ar.ib .sub .i64 (ar.len X) 1)) r = rowsS (o' :: S) := by
  rw [dqIx har hX hl, setxIs har, setxIs har, setxIs har, List.set_set, List.set_set, hX, ← hr, rowsS_set]
theorem dqB3 (i : Nat) (r : List PS) : (0 : Int) ≤ ar.ib .sub .i64 (ar.len (ar.setx X i r)) 1 ∧ ar.ib .sub .i64 (ar.len (ar.setx X i r)) 1 < ((ar.setx X i r).length : Int) := by
  rw [dqLenS har hX hl, setxIs har, List.length_set]; exact dqB har hX hl
theorem dqGet3 (r : List PS) : (ar.setx X (ar.nat (ar.ib .sub .i64 (ar.len X) 1)) r)[ar.nat (ar.ib .sub .i64 (ar.len (ar.setx X (ar.nat (ar.ib .sub .i64 (ar.len X) 1)) r)) 1)]? = some r := by
  rw [dqLenS har hX hl]; exact dqGet2 har hX hl r
theorem dqB4 (i : Nat) (r : List PS) : (0 : Int) ≤ ar.ib .sub .i64 (ar.len (ar.setx X i r)) 1 ∧ ar.ib .sub .i64 (ar.len (ar.setx X i r)) 1 ≤ ((ar.setx X i r).length : Int) := by
  have := dqB3 har hX hl i r; omega
theorem dqPop (r : List PS) : ar.mid (ar.setx X (ar.nat (ar.ib .sub .i64 (ar.len X) 1)) r) 0 (ar.nat (ar.ib .sub .i64 (ar.len (ar.setx X (ar.nat (ar.ib .sub .i64 (ar.len X) 1)) r)) 1)) = rowsS S := by
  rw [dqLenS har hX hl, dqIx har hX hl, setxIs har, midIs har, List.drop_zero, hX, rowsS_take]
end

end Go.Eng
namespace Go.Eng
open Go Go.Proofs
set_option maxRecDepth 100000
set_option maxHeartbeats 8000000
set_option linter.unusedVariables false

/-- What stands at a label: the bytes, the stack's rows, the item's row, the error; what goes on falling. -/
structure DQ where
  lab : Nat
  B : List (List PS)
  sb : List (List PS)
  X : List (List PS)
  l : Bool
  D : List (List PS)
  sd : List (List PS)
  I : List (List PS)
  ss : List (List PS)
  e : Int
  m : Nat

def dqGood (R : Except Int It) (q : DQ) : Prop :=
  (q.lab = 0 ∧ R = .error q.e ∧ q.m = 0) ∨
  (q.lab = 1 ∧ ∃ (S : List Opn) (b : List Int), q.B = b.map b8 ∧ bytesOk b ∧ (∀ z ∈ q.sb, rlen z = 1) ∧ q.X = rowsS S ∧ (∀ o ∈ S, o.ok) ∧ left b S + held S ≤ 16777216 ∧ cItem S b = R ∧ q.m = 6 * left b S + 2 * S.length + 1) ∨
  (q.lab = 2 ∧ ∃ (S : List Opn) (b : List Int) (it : It), q.B = b.map b8 ∧ bytesOk b ∧ (∀ z ∈ q.sb, rlen z = 1) ∧ q.X = rowsS S ∧ (∀ o ∈ S, o.ok) ∧ it.row = [.c (.v (.bool q.l)), .c (.sl q.D q.sd), .c (.sl q.I q.ss)] ∧ left b S + held S + 1 ≤ 16777216 ∧ cEnd S it b = R ∧ q.m = 6 * left b S + 2 * S.length + 2) ∨
  (q.lab = 3 ∧ ∃ (o : Opn) (S : List Opn) (b : List Int), q.B = b.map b8 ∧ bytesOk b ∧ (∀ z ∈ q.sb, rlen z = 1) ∧ q.X = rowsS (o :: S) ∧ (∀ o' ∈ o :: S, o'.ok) ∧ left b (o :: S) + held (o :: S) ≤ 16777216 ∧ cWithin o.its o.bh S b = R ∧ q.m = 6 * left b (o :: S) + 2 * S.length + 4)

def dqSt (q : DQ) : St :=
  match q.lab with
  | 0 => ⟨mk 105 [(2, .s (.ptr 0 0)), (3, .s (.lit .i64 0)), (9, pint q.e)], [.box [.c (.bl false), .c .nil, .c .nil]]⟩
  | _ => ⟨mk 105 [(0, .s (.p (.sl q.B q.sb))), (2, .s (.ptr 0 0)), (3, .s (.lit .i64 0)), (4, .s (.own 2)), (5, .s (.ptr 1 0))], [.box [.c (.bl false), .c .nil, .c .nil], .box [.c (.p (.v (.bool q.l))), .c (.p (.sl q.D q.sd)), .c (.p (.sl q.I q.ss))], .nest q.X 116 2 48 none]⟩

def decK (R : Except Int It) (k : List PR → Prop) : Prop :=
  match R with
  | .ok it => k [.a it.row, .s (.v (.int .i64 0))]
  | .error e => k [.a It.zero.row, .s (.v (.int .i64 e))]

theorem decode_sound : Sound Tryd.prog 48 fun args k => ∃ (d : List Int) (sd : List (List PS)), args = [.s (.sl (d.map b8) sd)] ∧ bytesOk d ∧ d.length ≤ 2 ^ 40 ∧ (∀ z ∈ sd, rlen z = 1) ∧ decK (decR d) k := by
  refine Sound.of_body tt_ok ent_ok Tryd.func48 rfl ?_
  rintro ar har Γ hΓ args k ⟨d, sd, hargs, hok, hl, hsd, hk⟩
  obtain ⟨B0, hB0⟩ : ∃ D, D = d.map b8 := ⟨_, rfl⟩
  obtain ⟨R, hR⟩ : ∃ R, R = decR d := ⟨_, rfl⟩
  have hB0l : ar.len B0 = (d.length : Int) := by rw [lenIs har, hB0, List.length_map]
  rw [← hB0] at hargs
  rw [← hR] at hk
  subst hargs
  conv => cbv
  refine ⟨{ q : DQ // dqGood R q }, fun q => q.1.lab, fun q => dqSt q.1, fun q => q.1.m, [], [.settle 2, .fbx 1], _, rfl, ?_, ?_⟩
  · conv => cbv
    refine ⟨fun h => ?_, fun h => ?_⟩
    · have g := cGt har (a := ar.len B0) (b := 16777216) h
      have hR2 : R = .error 2 := by rw [hR, decR, if_pos (by omega)]
      conv => cbv
      refine ⟨⟨⟨0, [], [], [], false, [], [], [], [], 2, 0⟩, .inl ⟨rfl, hR2, rfl⟩⟩, rfl, ?_⟩
      conv => cbv
      simp
    have g := cNgt har (a := ar.len B0) (b := 16777216) h
    have hc : cItem [] d = R := by rw [hR, decR, if_neg (by omega)]
    have hB := hB0
    have hsb := hsd
    have dok := hok
    have hX : ([] : List (List PS)) = rowsS [] := rfl
    have hS : ∀ o ∈ ([] : List Opn), o.ok := by simp
    have hcnt : left d [] + held [] ≤ 16777216 := by simp only [left, held, List.map_nil, List.sum_nil]; omega
    conv => cbv
    refine ⟨[.nest 4 116], _, rfl, ?_⟩
    conv => cbv
    obtain ⟨L, hL⟩ : ∃ x, x = (cutR d).1 := ⟨_, rfl⟩
    obtain ⟨p, hp⟩ : ∃ x, x = (cutR d).2.1 := ⟨_, rfl⟩
    obtain ⟨r, hr⟩ : ∃ x, x = (cutR d).2.2.1 := ⟨_, rfl⟩
    obtain ⟨E, hE⟩ : ∃ x, x = (cutR d).2.2.2 := ⟨_, rfl⟩
    obtain ⟨P, hP⟩ : ∃ x, x = p.map b8 := ⟨_, rfl⟩
    obtain ⟨Q, hQ⟩ : ∃ x, x = r.map b8 := ⟨_, rfl⟩
    have hsub := cutR_sub (P := fun x : Int => 0 ≤ x ∧ x < 256) dok
    rw [← hp, ← hr] at hsub
    obtain ⟨hpok, hrok⟩ := hsub
    have hlen : E = 0 → r.length < d.length ∧ p.length ≤ d.length ∧ (L = true → p.length + r.length < d.length) := fun h => by
      have := cutR_len (d := d) (by rw [← hE]; exact h)
      rw [← hr, ← hp, ← hL] at this
      exact this
    have hItem : cItem ([] : List Opn) d = if E = 0 then (if L = true then (if ([] : List Opn).length = 1024 then .error 74 else cWithin [] r ([] : List Opn) p) else cEnd ([] : List Opn) (.txt p) r) else .error E := by
      unfold cItem
      rw [← hL, ← hp, ← hr, ← hE]
    have callCut : ∀ (Γ : Ctx) (d' : Nat) (k : List PR → Prop) (R : Prop), Γ = ctx Tryd.prog d' → (∀ sp sr : List (List PS), (∀ z ∈ sp, rlen z = 1) → (∀ z ∈ sr, rlen z = 1) → k [.s (.v (.bool L)), .s (.sl P sp), .s (.sl Q sr), .s (.v (.int .i64 E))]) → Γ.g 70 [.s (.sl B0 sd)] k ∨ R := fun Γ d' k R hΓ hk => call_by hΓ cut_sound ⟨d, sd, by rw [hB], dok, by omega, hsb, by rw [← hL, ← hp, ← hr, ← hE, ← hP, ← hQ]; exact hk⟩
    have A1 := left_eq d ([] : List Opn)
    have A2 := left_eq r ([] : List Opn)
    have A3 : ∀ sr : List (List PS), left p ((⟨[], r, sr⟩ : Opn) :: ([] : List Opn)) = p.length + r.length + left [] ([] : List Opn) := fun sr => left_cons p _ ([] : List Opn)
    have A4 : ∀ sr : List (List PS), held ((⟨[], r, sr⟩ : Opn) :: ([] : List Opn)) = 0 + 1 + held ([] : List Opn) := fun sr => held_cons _ ([] : List Opn)
    have hXl : ar.len ([] : List (List PS)) = (([] : List Opn).length : Int) := by rw [lenIs har, hX, rowsS_length]
    refine callCut _ _ _ _ hΓ fun sp sr hsp hsr => ?_
    conv => cbv
    refine ⟨fun h => ?_, fun h => ?_⟩
    · have g := cNe har (a := E) (b := 0) h
      have hRE : R = .error E := by rw [← hc, hItem, if_neg g]
      conv => cbv
      refine ⟨⟨⟨0, [], [], [], false, [], [], [], [], E, 0⟩, .inl ⟨rfl, hRE, rfl⟩⟩, rfl, ?_⟩
      conv => cbv
      simp
    have g := cNne har (a := E) (b := 0) h
    obtain ⟨hl1, hl2, hl3⟩ := hlen g
    rw [if_pos g] at hItem
    conv => cbv
    refine ⟨fun h => ?_, fun h => ?_⟩
    · have g2 := nbT har h
      have hRT : cEnd ([] : List Opn) (.txt p) r = R := by rw [← hc, hItem, g2]; rfl
      have hrow : (It.txt p).row = [.c (.v (.bool false)), .c (.sl P []), .c (.sl [] [])] := by rw [hP]; rfl
      have callT : ∀ (Γ : Ctx) (d' : Nat) (k : List PR → Prop) (R : Prop), Γ = ctx Tryd.prog d' → k [.a [.c (.v (.bool false)), .c (.sl P []), .c (.sl [] [])]] → Γ.g 65 [.s (.sl P sp)] k ∨ R := fun Γ d' k R hΓ hk => call_by hΓ text_sound ⟨p, sp, by rw [hP], by omega, by rw [hrow]; exact hk⟩
      conv => cbv
      refine callT _ _ _ _ hΓ ?_
      conv => cbv
      refine ⟨⟨⟨2, Q, sr, ([] : List (List PS)), false, P, [], [], [], 0, 6 * left r ([] : List Opn) + 2 * ([] : List Opn).length + 2⟩, .inr (.inr (.inl ⟨rfl, ([] : List Opn), r, .txt p, hQ, hrok, hsr, hX, hS, hrow, by omega, hRT, rfl⟩))⟩, rfl, ?_⟩
      conv => cbv
      simp
    · have g2 := nbF har h
      rw [if_pos g2] at hItem
      have hl3 := hl3 g2
      conv => cbv
      refine ⟨fun h => ?_, fun h => ?_⟩
      · have g3 := cEq har (a := ar.len ([] : List (List PS))) (b := 1024) h
        have hRE : R = .error 74 := by rw [← hc, hItem, if_pos (by omega)]
        conv => cbv
        refine ⟨⟨⟨0, [], [], [], false, [], [], [], [], 74, 0⟩, .inl ⟨rfl, hRE, rfl⟩⟩, rfl, ?_⟩
        conv => cbv
        simp
      · have g3 := cNeq har (a := ar.len ([] : List (List PS))) (b := 1024) h
        have hRW : cWithin [] r ([] : List Opn) p = R := by rw [← hc, hItem, if_neg (by omega)]
        have hap : (ar.app ([] : List (List PS)) [[.c (.ow [] 51 3 56), .c (.sl Q sr)]]) = rowsS ((⟨[], r, sr⟩ : Opn) :: ([] : List Opn)) := by rw [appIs har, rowsS_cons, hX, hQ]; rfl
        have hXn : ([] : List (List PS)).length = ([] : List Opn).length := by rw [hX, rowsS_length]
        have hbnd : (([] : List (List PS)).length + 1) * 48 ≤ 140737488355328 := by
          have := held_le ([] : List Opn)
          omega
        conv => cbv
        refine ⟨fun _ => ⟨Nat.zero_lt_one, hbnd, fun y hy => by rw [List.mem_singleton] at hy; subst hy; rfl⟩, ?_⟩
        refine ⟨⟨⟨3, P, sp, ar.app ([] : List (List PS)) [[.c (.ow [] 51 3 56), .c (.sl Q sr)]], true, [], [], [], [], 0, 6 * (p.length + r.length + left [] ([] : List Opn)) + 2 * ([] : List Opn).length + 4⟩, .inr (.inr (.inr ⟨rfl, ⟨[], r, sr⟩, ([] : List Opn), p, hP, hpok, hsp, hap, fun o ho => by rcases List.mem_cons.1 ho with rfl | ho; exact ⟨hrok, hsr⟩; exact hS o ho, by rw [A3, A4]; omega, hRW, by rw [A3]⟩))⟩, rfl, ?_⟩
        conv => cbv
        simp
  · rintro ⟨⟨lab, B, sb, X, l, D, sdd, I, ss, e, m⟩, hq⟩
    rcases hq with ⟨h1, hRe, hm⟩ | ⟨h1, S, b, hB, bok, hsb, hX, hS, hcnt, hc, hm⟩ | ⟨h1, S, b, it, hB, bok, hsb, hX, hS, hrw, hcnt, hc, hm⟩ | ⟨h1, o, S, b, hB, bok, hsb, hX, hS, hcnt, hc, hm⟩
    · dsimp only at h1 hRe hm
      subst h1
      conv => cbv
      rw [hRe] at hk
      exact hk
    · dsimp only at h1 hB bok hsb hX hS hcnt hc hm
      subst h1
      have hbl : b.length ≤ 16777216 := by have := left_eq b S; omega
      conv => cbv
      obtain ⟨L, hL⟩ : ∃ x, x = (cutR b).1 := ⟨_, rfl⟩
      obtain ⟨p, hp⟩ : ∃ x, x = (cutR b).2.1 := ⟨_, rfl⟩
      obtain ⟨r, hr⟩ : ∃ x, x = (cutR b).2.2.1 := ⟨_, rfl⟩
      obtain ⟨E, hE⟩ : ∃ x, x = (cutR b).2.2.2 := ⟨_, rfl⟩
      obtain ⟨P, hP⟩ : ∃ x, x = p.map b8 := ⟨_, rfl⟩
      obtain ⟨Q, hQ⟩ : ∃ x, x = r.map b8 := ⟨_, rfl⟩
      have hsub := cutR_sub (P := fun x : Int => 0 ≤ x ∧ x < 256) bok
      rw [← hp, ← hr] at hsub
      obtain ⟨hpok, hrok⟩ := hsub
      have hlen : E = 0 → r.length < b.length ∧ p.length ≤ b.length ∧ (L = true → p.length + r.length < b.length) := fun h => by
        have := cutR_len (d := b) (by rw [← hE]; exact h)
        rw [← hr, ← hp, ← hL] at this
        exact this
      have hItem : cItem S b = if E = 0 then (if L = true then (if S.length = 1024 then .error 74 else cWithin [] r S p) else cEnd S (.txt p) r) else .error E := by
        unfold cItem
        rw [← hL, ← hp, ← hr, ← hE]
      have callCut : ∀ (Γ : Ctx) (d' : Nat) (k : List PR → Prop) (R : Prop), Γ = ctx Tryd.prog d' → (∀ sp sr : List (List PS), (∀ z ∈ sp, rlen z = 1) → (∀ z ∈ sr, rlen z = 1) → k [.s (.v (.bool L)), .s (.sl P sp), .s (.sl Q sr), .s (.v (.int .i64 E))]) → Γ.g 70 [.s (.sl B sb)] k ∨ R := fun Γ d' k R hΓ hk => call_by hΓ cut_sound ⟨b, sb, by rw [hB], bok, by omega, hsb, by rw [← hL, ← hp, ← hr, ← hE, ← hP, ← hQ]; exact hk⟩
      have A1 := left_eq b S
      have A2 := left_eq r S
      have A3 : ∀ sr : List (List PS), left p ((⟨[], r, sr⟩ : Opn) :: S) = p.length + r.length + left [] S := fun sr => left_cons p _ S
      have A4 : ∀ sr : List (List PS), held ((⟨[], r, sr⟩ : Opn) :: S) = 0 + 1 + held S := fun sr => held_cons _ S
      have hXl : ar.len X = (S.length : Int) := by rw [lenIs har, hX, rowsS_length]
      refine callCut _ _ _ _ hΓ fun sp sr hsp hsr => ?_
      conv => cbv
      refine ⟨fun h => ?_, fun h => ?_⟩
      · have g := cNe har (a := E) (b := 0) h
        have hRE : R = .error E := by rw [← hc, hItem, if_neg g]
        conv => cbv
        refine ⟨⟨⟨0, [], [], [], false, [], [], [], [], E, 0⟩, .inl ⟨rfl, hRE, rfl⟩⟩, rfl, ?_, ?_⟩
        · conv => cbv
          simp
        · show (0 : Nat) < m
          rw [hm]; omega
      have g := cNne har (a := E) (b := 0) h
      obtain ⟨hl1, hl2, hl3⟩ := hlen g
      rw [if_pos g] at hItem
      conv => cbv
      refine ⟨fun h => ?_, fun h => ?_⟩
      · have g2 := nbT har h
        have hRT : cEnd S (.txt p) r = R := by rw [← hc, hItem, g2]; rfl
        have hrow : (It.txt p).row = [.c (.v (.bool false)), .c (.sl P []), .c (.sl [] [])] := by rw [hP]; rfl
        have callT : ∀ (Γ : Ctx) (d' : Nat) (k : List PR → Prop) (R : Prop), Γ = ctx Tryd.prog d' → k [.a [.c (.v (.bool false)), .c (.sl P []), .c (.sl [] [])]] → Γ.g 65 [.s (.sl P sp)] k ∨ R := fun Γ d' k R hΓ hk => call_by hΓ text_sound ⟨p, sp, by rw [hP], by omega, by rw [hrow]; exact hk⟩
        conv => cbv
        refine callT _ _ _ _ hΓ ?_
        conv => cbv
        refine ⟨⟨⟨2, Q, sr, X, false, P, [], [], [], 0, 6 * left r S + 2 * S.length + 2⟩, .inr (.inr (.inl ⟨rfl, S, r, .txt p, hQ, hrok, hsr, hX, hS, hrow, by omega, hRT, rfl⟩))⟩, rfl, ?_, ?_⟩
        · conv => cbv
          simp
        · show (6 * left r S + 2 * S.length + 2 : Nat) < m
          rw [hm]; omega
      · have g2 := nbF har h
        rw [if_pos g2] at hItem
        have hl3 := hl3 g2
        conv => cbv
        refine ⟨fun h => ?_, fun h => ?_⟩
        · have g3 := cEq har (a := ar.len X) (b := 1024) h
          have hRE : R = .error 74 := by rw [← hc, hItem, if_pos (by omega)]
          conv => cbv
          refine ⟨⟨⟨0, [], [], [], false, [], [], [], [], 74, 0⟩, .inl ⟨rfl, hRE, rfl⟩⟩, rfl, ?_, ?_⟩
          · conv => cbv
            simp
          · show (0 : Nat) < m
            rw [hm]; omega
        · have g3 := cNeq har (a := ar.len X) (b := 1024) h
          have hRW : cWithin [] r S p = R := by rw [← hc, hItem, if_neg (by omega)]
          have hap : (ar.app X [[.c (.ow [] 51 3 56), .c (.sl Q sr)]]) = rowsS ((⟨[], r, sr⟩ : Opn) :: S) := by rw [appIs har, rowsS_cons, hX, hQ]; rfl
          have hXn : X.length = S.length := by rw [hX, rowsS_length]
          have hbnd : (X.length + 1) * 48 ≤ 140737488355328 := by
            have := held_le S
            omega
          conv => cbv
          refine ⟨fun _ => ⟨Nat.zero_lt_one, hbnd, fun y hy => by rw [List.mem_singleton] at hy; subst hy; rfl⟩, ?_⟩
          refine ⟨⟨⟨3, P, sp, ar.app X [[.c (.ow [] 51 3 56), .c (.sl Q sr)]], true, [], [], [], [], 0, 6 * (p.length + r.length + left [] S) + 2 * S.length + 4⟩, .inr (.inr (.inr ⟨rfl, ⟨[], r, sr⟩, S, p, hP, hpok, hsp, hap, fun o ho => by rcases List.mem_cons.1 ho with rfl | ho; exact ⟨hrok, hsr⟩; exact hS o ho, by rw [A3, A4]; omega, hRW, by rw [A3]⟩))⟩, rfl, ?_, ?_⟩
          · conv => cbv
            simp
          · show (6 * (p.length + r.length + left [] S) + 2 * S.length + 4 : Nat) < m
            rw [hm]; omega
    · dsimp only at h1 hB bok hsb hX hS hrw hcnt hc hm
      subst h1
      have hbl : b.length ≤ 16777216 := by have := left_eq b S; omega
      have hBl : ar.len B = (b.length : Int) := by rw [lenIs har, hB, List.length_map]
      have hXl : ar.len X = (S.length : Int) := by rw [lenIs har, hX, rowsS_length]
      conv => cbv
      refine ⟨fun h => ?_, fun h => ?_⟩
      · have g := cEq har (a := ar.len X) (b := 0) h
        have hS0 : S = [] := List.eq_nil_of_length_eq_zero (by omega)
        subst hS0
        conv => cbv
        refine ⟨fun h => ?_, fun h => ?_⟩
        · have g2 := cGt har (a := ar.len B) (b := 0) h
          have hRE : R = .error 73 := by rw [← hc, cEnd, if_neg (fun e => by rw [e, List.length_nil] at hBl; omega)]
          conv => cbv
          refine ⟨⟨⟨0, [], [], [], false, [], [], [], [], 73, 0⟩, .inl ⟨rfl, hRE, rfl⟩⟩, rfl, ?_, ?_⟩
          · conv => cbv
            simp
          · show (0 : Nat) < m
            omega
        · have g2 := cNgt har (a := ar.len B) (b := 0) h
          have hRE : R = .ok it := by rw [← hc, cEnd, if_pos (List.eq_nil_of_length_eq_zero (by omega))]
          rw [hRE] at hk
          have hk : k [.a it.row, .s (.v (.int .i64 0))] := hk
          rw [hrw] at hk
          conv => cbv
          exact hk
      have g := cNeq har (a := ar.len X) (b := 0) h
      cases S with
      | nil => exact absurd hXl (by rw [List.length_nil]; omega)
      | cons o S =>
      have hSl : S.length ≤ 2 ^ 30 := by have := held_le (o :: S); rw [List.length_cons] at this; omega
      obtain ⟨I1, hI1⟩ : ∃ x, x = rowsOf o.its := ⟨_, rfl⟩
      obtain ⟨BH, hBH⟩ : ∃ x, x = o.bh.map b8 := ⟨_, rfl⟩
      obtain ⟨sb2, hsb2⟩ : ∃ x, x = o.sb := ⟨_, rfl⟩
      have hrowX : o.row = [.c (.ow I1 51 3 56), .c (.sl BH sb2)] := by rw [hI1, hBH, hsb2]; rfl
      have hI1n : I1.length = o.its.length := by rw [hI1, rowsOf_length]
      have hI1l : ar.nat (ar.len I1) = I1.length := by rw [lenIs har]; exact natOf har rfl
      have hcu := held_cons o S
      have hlu := left_cons b o S
      have hbnd : ∀ r : List PS, rlen r = 3 → (I1.length + 1) * 56 ≤ 140737488355328 ∧ ∀ y ∈ [r], rlen y = 3 := fun r hr => by
        refine ⟨by omega, fun y hy => ?_⟩
        rw [List.mem_singleton] at hy; subst hy; exact hr
      have hitl : rlen [PS.c (.v (.bool l)), .c (.sl D sdd), .c (.sl I ss)] = 3 := rfl
      have hsI : ∀ r : List PS, (0 : Int) ≤ ar.len I1 ∧ ar.len I1 < ((ar.app I1 [r]).length : Int) := fun r => by
        rw [lenIs har, appIs har, List.length_append, List.length_singleton]; omega
      have hsI2 : ∀ r : List PS, ar.nat (ar.len I1) < (ar.app I1 [r]).length ∧ rlen [PS.c (.v (.bool l)), .c (.sl D sdd), .c (.sl I ss)] = 3 := fun r => by
        rw [hI1l, appIs har, List.length_append, List.length_singleton]; exact ⟨by omega, rfl⟩
      obtain ⟨o2, ho2⟩ : ∃ o2 : Opn, o2 = ⟨o.its ++ [it], o.bh, o.sb⟩ := ⟨_, rfl⟩
      have hI2 : rowsOf o2.its = I1 ++ [[.c (.v (.bool l)), .c (.sl D sdd), .c (.sl I ss)]] := by rw [ho2, hI1, rowsOf_append, rowsOf, rowsOf, hrw]
      have hIA : ∀ r : List PS, ar.setx (ar.app I1 [r]) (ar.nat (ar.len I1)) [.c (.v (.bool l)), .c (.sl D sdd), .c (.sl I ss)] = rowsOf o2.its := fun r => by
        rw [hI2, hI1l, setxIs har, appIs har, List.set_append_right _ _ (Nat.le_refl _), Nat.sub_self]; rfl
      have hIB : ar.app I1 [[.c (.v (.bool l)), .c (.sl D sdd), .c (.sl I ss)]] = rowsOf o2.its := by rw [hI2, appIs har]
      have ho2r : ∀ J, J = rowsOf o2.its → o2.row = [.c (.ow J 51 3 56), .c (.sl BH sb2)] := fun J hJ => by rw [hJ, hBH, hsb2, ho2]; rfl
      have hcu2 : held (o2 :: S) = held (o :: S) + 1 := by rw [held_cons, held_cons, ho2, List.length_append, List.length_singleton]; omega
      have hlu2 : left b (o2 :: S) = left b (o :: S) := by rw [left_cons, left_cons, ho2]
      have hcW : cWithin o2.its o2.bh S b = R := by rw [← hc, cEnd_cons, ho2]
      have hlu3 := left_cons b o2 S
      have hcu3 := held_cons o2 S
      have hoo := hS o (by simp)
      have hS2 : ∀ o' ∈ o2 :: S, o'.ok := fun o' ho' => by
        rcases List.mem_cons.1 ho' with rfl | ho'
        · rw [ho2]; exact hoo
        · exact hS o' (by simp [ho'])
      have hbh2 : o2.bh = o.bh := by rw [ho2]
      rw [List.length_cons] at hm
      conv => cbv
      refine ⟨Bool, fun c => ⟨mk 105 [(0, .s (.p (.sl B sb))), (2, .s (.ptr 0 0)), (3, .s (.lit .i64 0)), (4, .s (.own 2)), (5, .s (.ptr 1 0)), (45, .s (.bl c))], [.box [.c (.bl false), .c .nil, .c .nil], .box [.c (.p (.v (.bool l))), .c (.p (.sl D sdd)), .c (.p (.sl I ss))], .nest X 116 2 48 none]⟩, ?_, fun c => ?_⟩
      · conv => cbv
        refine ⟨⟨false, ?_⟩, true, ?_⟩
        · conv => cbv
          simp
        · conv => cbv
          simp
      · cases c with
        | true =>
          conv => cbv
          refine ⟨by rw [har]; kernel_rfl, fun _ => dqB har hX hSl, _, dqGet har hX hSl hrowX, ?_⟩
          conv => cbv
          intro w
          conv => cbv
          refine ⟨fun _ => hbnd _ rfl, ?_⟩
          conv => cbv
          refine ⟨fun _ => dqB2 har hX hSl _, _, dqGet2 har hX hSl _, ?_⟩
          conv => cbv
          intro w2
          conv => cbv
          refine ⟨fun _ => hsI _, fun _ => hsI2 _, ?_⟩
          conv => cbv
          refine ⟨[.settle 2], _, rfl, ?_⟩
          obtain ⟨J, hJ⟩ : ∃ J, ar.setx (ar.app I1 [[PS.c (.v (.bool false)), .c (.sl [] []), .c (.sl [] [])]]) (ar.nat (ar.len I1)) [.c (.v (.bool l)), .c (.sl D sdd), .c (.sl I ss)] = J := ⟨_, rfl⟩
          have hJ2 : J = rowsOf o2.its := by rw [← hJ]; exact hIA _
          obtain ⟨X2, hX2⟩ : ∃ x, ar.setx (ar.setx (ar.setx X (ar.nat (ar.ib .sub .i64 (ar.len X) 1)) [.c (.v w), .c (.sl BH sb2)]) (ar.nat (ar.ib .sub .i64 (ar.len X) 1)) [.c (.v w2), .c (.sl BH sb2)]) (ar.nat (ar.ib .sub .i64 (ar.len X) 1)) [.c (.ow J 51 3 56), .c (.sl BH sb2)] = x := ⟨_, rfl⟩
          have hX2r : X2 = rowsS (o2 :: S) := by rw [← hX2]; exact dqPut har hX hSl (ho2r J hJ2)
          have hr2 := ho2r J hJ2
          conv at hJ => lhs; cbv
          conv at hX2 => lhs; cbv
          conv => cbv
          rw [hJ, hX2]
          refine ⟨fun h => ?_, fun h => ?_⟩
          · have g2 := cGt har (a := ar.len B) (b := 0) h
            have hbne : b ≠ [] := fun e => by rw [e, List.length_nil] at hBl; omega
            have hcI : cItem (o2 :: S) b = R := by rw [← hcW, cWithin_item _ _ hbne]
            conv => cbv
            refine ⟨⟨⟨1, B, sb, X2, l, D, sdd, I, ss, 0, 6 * left b (o2 :: S) + 2 * (o2 :: S).length + 1⟩, .inr (.inl ⟨rfl, o2 :: S, b, hB, bok, hsb, hX2r, hS2, by omega, hcI, rfl⟩)⟩, rfl, ?_, ?_⟩
            · conv => cbv
              simp
            · show (6 * left b (o2 :: S) + 2 * (o2 :: S).length + 1 : Nat) < m
              rw [hm, List.length_cons]; omega
          · have g2 := cNgt har (a := ar.len B) (b := 0) h
            have hbe : b = [] := List.eq_nil_of_length_eq_zero (by omega)
            have hcE : cEnd S (.lst o2.its) o2.bh = R := by rw [← hcW, hbe, cWithin_nil]
            have hlr : (It.lst o2.its).row = [.c (.v (.bool true)), .c (.sl [] []), .c (.sl J [])] := by rw [hJ2]; rfl
            have hA := left_eq o2.bh S
            have hBz : b.length = 0 := by rw [hbe]; rfl
            have hsub : BH = o2.bh.map b8 := by rw [hBH, ho2]
            conv => cbv
            refine ⟨fun _ => dqB har hX2r hSl, _, dqGet har hX2r hSl hr2, ?_⟩
            conv => cbv
            intro w3
            conv => cbv
            refine ⟨fun _ => dqB3 har hX2r hSl _ _, _, dqGet3 har hX2r hSl _, ?_⟩
            conv => cbv
            refine ⟨fun _ => dqB4 har hX2r hSl _ _, ?_⟩
            conv => cbv
            refine ⟨⟨⟨2, BH, sb2, ar.mid (ar.setx X2 (ar.nat (ar.ib .sub .i64 (ar.len X2) 1)) [.c (.v w3), .c (.sl BH sb2)]) 0 (ar.nat (ar.ib .sub .i64 (ar.len (ar.setx X2 (ar.nat (ar.ib .sub .i64 (ar.len X2) 1)) [.c (.v w3), .c (.sl BH sb2)])) 1)), true, [], [], J, [], 0, 6 * left o2.bh S + 2 * S.length + 2⟩, .inr (.inr (.inl ⟨rfl, S, o2.bh, .lst o2.its, hsub, (hS2 o2 (by simp)).1, by rw [hsb2]; exact hoo.2, dqPop har hX2r hSl _, fun o' ho' => hS2 o' (by simp [ho']), hlr, by omega, hcE, rfl⟩))⟩, rfl, ?_, ?_⟩
            · conv => cbv
              simp
            · show (6 * left o2.bh S + 2 * S.length + 2 : Nat) < m
              rw [hm]; omega
        | false =>
          conv => cbv
          refine ⟨by rw [har]; kernel_rfl, fun _ => dqB har hX hSl, _, dqGet har hX hSl hrowX, ?_⟩
          conv => cbv
          intro w
          conv => cbv
          refine ⟨fun _ => hbnd _ hitl, ?_⟩
          conv => cbv
          refine ⟨fun _ => dqB2 har hX hSl _, _, dqGet2 har hX hSl _, ?_⟩
          conv => cbv
          intro w2
          conv => cbv
          refine ⟨[.settle 2], _, rfl, ?_⟩
          obtain ⟨J, hJ⟩ : ∃ J, ar.app I1 [[PS.c (.v (.bool l)), .c (.sl D sdd), .c (.sl I ss)]] = J := ⟨_, rfl⟩
          have hJ2 : J = rowsOf o2.its := by rw [← hJ]; exact hIB
          obtain ⟨X2, hX2⟩ : ∃ x, ar.setx (ar.setx (ar.setx X (ar.nat (ar.ib .sub .i64 (ar.len X) 1)) [.c (.v w), .c (.sl BH sb2)]) (ar.nat (ar.ib .sub .i64 (ar.len X) 1)) [.c (.v w2), .c (.sl BH sb2)]) (ar.nat (ar.ib .sub .i64 (ar.len X) 1)) [.c (.ow J 51 3 56), .c (.sl BH sb2)] = x := ⟨_, rfl⟩
          have hX2r : X2 = rowsS (o2 :: S) := by rw [← hX2]; exact dqPut har hX hSl (ho2r J hJ2)
          have hr2 := ho2r J hJ2
          conv at hJ => lhs; cbv
          conv at hX2 => lhs; cbv
          conv => cbv
          rw [hJ, hX2]
          refine ⟨fun h => ?_, fun h => ?_⟩
          · have g2 := cGt har (a := ar.len B) (b := 0) h
            have hbne : b ≠ [] := fun e => by rw [e, List.length_nil] at hBl; omega
            have hcI : cItem (o2 :: S) b = R := by rw [← hcW, cWithin_item _ _ hbne]
            conv => cbv
            refine ⟨⟨⟨1, B, sb, X2, l, D, sdd, I, ss, 0, 6 * left b (o2 :: S) + 2 * (o2 :: S).length + 1⟩, .inr (.inl ⟨rfl, o2 :: S, b, hB, bok, hsb, hX2r, hS2, by omega, hcI, rfl⟩)⟩, rfl, ?_, ?_⟩
            · conv => cbv
              simp
            · show (6 * left b (o2 :: S) + 2 * (o2 :: S).length + 1 : Nat) < m
              rw [hm, List.length_cons]; omega
          · have g2 := cNgt har (a := ar.len B) (b := 0) h
            have hbe : b = [] := List.eq_nil_of_length_eq_zero (by omega)
            have hcE : cEnd S (.lst o2.its) o2.bh = R := by rw [← hcW, hbe, cWithin_nil]
            have hlr : (It.lst o2.its).row = [.c (.v (.bool true)), .c (.sl [] []), .c (.sl J [])] := by rw [hJ2]; rfl
            have hA := left_eq o2.bh S
            have hBz : b.length = 0 := by rw [hbe]; rfl
            have hsub : BH = o2.bh.map b8 := by rw [hBH, ho2]
            conv => cbv
            refine ⟨fun _ => dqB har hX2r hSl, _, dqGet har hX2r hSl hr2, ?_⟩
            conv => cbv
            intro w3
            conv => cbv
            refine ⟨fun _ => dqB3 har hX2r hSl _ _, _, dqGet3 har hX2r hSl _, ?_⟩
            conv => cbv
            refine ⟨fun _ => dqB4 har hX2r hSl _ _, ?_⟩
            conv => cbv
            refine ⟨⟨⟨2, BH, sb2, ar.mid (ar.setx X2 (ar.nat (ar.ib .sub .i64 (ar.len X2) 1)) [.c (.v w3), .c (.sl BH sb2)]) 0 (ar.nat (ar.ib .sub .i64 (ar.len (ar.setx X2 (ar.nat (ar.ib .sub .i64 (ar.len X2) 1)) [.c (.v w3), .c (.sl BH sb2)])) 1)), true, [], [], J, [], 0, 6 * left o2.bh S + 2 * S.length + 2⟩, .inr (.inr (.inl ⟨rfl, S, o2.bh, .lst o2.its, hsub, (hS2 o2 (by simp)).1, by rw [hsb2]; exact hoo.2, dqPop har hX2r hSl _, fun o' ho' => hS2 o' (by simp [ho']), hlr, by omega, hcE, rfl⟩))⟩, rfl, ?_, ?_⟩
            · conv => cbv
              simp
            · show (6 * left o2.bh S + 2 * S.length + 2 : Nat) < m
              rw [hm]; omega
    · dsimp only at h1 hB bok hsb hX hS hcnt hc hm
      subst h1
      have hcu := held_cons o S
      have hlu := left_cons b o S
      have hcW := hc
      have hbl : b.length ≤ 16777216 := by omega
      have hBl : ar.len B = (b.length : Int) := by rw [lenIs har, hB, List.length_map]
      have hSl : S.length ≤ 2 ^ 30 := by have := held_le (o :: S); rw [List.length_cons] at this; omega
      obtain ⟨I1, hI1⟩ : ∃ x, x = rowsOf o.its := ⟨_, rfl⟩
      obtain ⟨BH, hBH⟩ : ∃ x, x = o.bh.map b8 := ⟨_, rfl⟩
      obtain ⟨sb2, hsb2⟩ : ∃ x, x = o.sb := ⟨_, rfl⟩
      have hrowX : o.row = [.c (.ow I1 51 3 56), .c (.sl BH sb2)] := by rw [hI1, hBH, hsb2]; rfl
      have hoo := hS o (by simp)
      conv => cbv
      refine ⟨fun h => ?_, fun h => ?_⟩
      · have g2 := cGt har (a := ar.len B) (b := 0) h
        have hbne : b ≠ [] := fun e => by rw [e, List.length_nil] at hBl; omega
        have hcI : cItem (o :: S) b = R := by rw [← hcW, cWithin_item _ _ hbne]
        conv => cbv
        refine ⟨⟨⟨1, B, sb, X, l, D, sdd, I, ss, 0, 6 * left b (o :: S) + 2 * (o :: S).length + 1⟩, .inr (.inl ⟨rfl, o :: S, b, hB, bok, hsb, hX, hS, by omega, hcI, rfl⟩)⟩, rfl, ?_, ?_⟩
        · conv => cbv
          simp
        · show (6 * left b (o :: S) + 2 * (o :: S).length + 1 : Nat) < m
          rw [hm, List.length_cons]; omega
      · have g2 := cNgt har (a := ar.len B) (b := 0) h
        have hbe : b = [] := List.eq_nil_of_length_eq_zero (by omega)
        have hcE : cEnd S (.lst o.its) o.bh = R := by rw [← hcW, hbe, cWithin_nil]
        have hlr : (It.lst o.its).row = [.c (.v (.bool true)), .c (.sl [] []), .c (.sl I1 [])] := by rw [hI1]; rfl
        have hA := left_eq o.bh S
        have hBz : b.length = 0 := by rw [hbe]; rfl
        have hsub : BH = o.bh.map b8 := by rw [hBH]
        conv => cbv
        refine ⟨fun _ => dqB har hX hSl, _, dqGet har hX hSl hrowX, ?_⟩
        conv => cbv
        intro w3
        conv => cbv
        refine ⟨fun _ => dqB3 har hX hSl _ _, _, dqGet3 har hX hSl _, ?_⟩
        conv => cbv
        refine ⟨fun _ => dqB4 har hX hSl _ _, ?_⟩
        conv => cbv
        refine ⟨⟨⟨2, BH, sb2, ar.mid (ar.setx X (ar.nat (ar.ib .sub .i64 (ar.len X) 1)) [.c (.v w3), .c (.sl BH sb2)]) 0 (ar.nat (ar.ib .sub .i64 (ar.len (ar.setx X (ar.nat (ar.ib .sub .i64 (ar.len X) 1)) [.c (.v w3), .c (.sl BH sb2)])) 1)), true, [], [], I1, [], 0, 6 * left o.bh S + 2 * S.length + 2⟩, .inr (.inr (.inl ⟨rfl, S, o.bh, .lst o.its, hsub, (hS o (by simp)).1, by rw [hsb2]; exact hoo.2, dqPop har hX hSl _, fun o' ho' => hS o' (by simp [ho']), hlr, by omega, hcE, rfl⟩))⟩, rfl, ?_, ?_⟩
        · conv => cbv
          simp
        · show (6 * left o.bh S + 2 * S.length + 2 : Nat) < m
          rw [hm]; omega
end Go.Eng
