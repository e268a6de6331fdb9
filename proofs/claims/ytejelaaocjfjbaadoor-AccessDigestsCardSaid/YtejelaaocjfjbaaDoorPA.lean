/-
  The reference's numbers as bytes: From, Put, Bytes; items of them. No condition.
  The reference's Bytes, Number, Small; textOf. No condition (textOf: at most 2^40 bytes).
  The reference's before, odd, oddly, depth, of texts and of lists of texts.
-/
import Derived.Test.YtejelaaocjfjbaaDoorLA
namespace Go.Eng
open Go Go.Proofs
set_option maxRecDepth 100000
set_option linter.unusedVariables false

theorem refFrom_sound : Sound Tryd.prog 62 fun args k => ∃ n : Nat, args = [.s (.v (.int .u64 n))] ∧ n < 18446744073709551616 ∧ k [pw n] := by
  refine Sound.of_body tt_ok ent_ok Tryd.func62 rfl ?_
  rintro ar har Γ hΓ args k ⟨n, rfl, hn, hk⟩
  have hw : w4 n = [.int .u64 n, .int .u64 0, .int .u64 0, .int .u64 0] := by
    unfold w4
    rw [Nat.mod_eq_of_lt hn, show n / 18446744073709551616 % 18446744073709551616 = 0 by omega, show n / 340282366920938463463374607431768211456 % 18446744073709551616 = 0 by omega, show n / 6277101735386680763835789423207666416102355444464034512896 % 18446744073709551616 = 0 by omega]; rfl
  unfold pw at hk
  rw [hw] at hk
  obtain ⟨z, hz⟩ : ∃ z : Int, z = (n : Int) := ⟨_, rfl⟩
  rw [← hz] at hk ⊢
  conv => cbv
  exact hk

theorem refPut_sound : Sound Tryd.prog 87 fun args k => ∃ n : Nat, args = [pw n] ∧ k [.a [.r 32 (u8s (be n 32))]] := by
  refine Sound.of_body tt_ok ent_ok Tryd.func87 rfl ?_
  rintro ar har Γ hΓ args k ⟨n, hargs, hk⟩
  obtain ⟨x, hx⟩ : ∃ x, x = w4 n := ⟨_, rfl⟩
  obtain ⟨zs, hzs⟩ : ∃ zs : List Value, zs = List.replicate 32 (.int .u8 0) := ⟨_, rfl⟩
  unfold pw at hargs
  rw [← hx] at hargs
  subst hargs
  conv => cbv
  refine .inr ⟨{ q : Nat × Int × List Value // q.1 ≤ 32 ∧ q.2.1 = q.1 ∧ q.2.2 = List.replicate (32 - q.1) (.int .u8 0) ++ u8s (be n q.1) },
    fun q => ⟨mk 23 [(1, .s (.ptr 0 0)), (2, .s (.ptr 1 0)), (3, .s (.ptr 2 0)), (4, pint q.1.2.1)], [.box [.r 4 x], .box [.r 32 zs], .box [.r 32 q.1.2.2]]⟩,
    fun q => 32 - q.1.1, [], _, ⟨(0, 0, zs), Nat.zero_le _, rfl, by rw [hzs]; rfl⟩, rfl, ?_, ?_⟩
  · subst hzs
    conv => cbv
    simp
  · rintro ⟨⟨p, pi, Z⟩, hq⟩
    have hp : p ≤ 32 := hq.1
    have hpi : pi = (p : Int) := hq.2.1
    have hZ : Z = List.replicate (32 - p) (.int .u8 0) ++ u8s (be n p) := hq.2.2
    dsimp only
    conv => cbv
    refine ⟨fun h => ?_, fun h => ?_⟩
    · have hlt : p < 32 := by have := cLt har h; omega
      have e1 : ar.ib .sub .i64 31 pi = ((31 - p : Nat) : Int) := by rw [iSub har (by omega)]; omega
      have e2 : ar.ib .quo .i64 pi 8 = ((p / 8 : Nat) : Int) := by rw [hpi]; exact iQuo har (b := 8) (by omega)
      have e3 : ar.ib .rem .i64 pi 8 = ((p % 8 : Nat) : Int) := by rw [hpi]; exact iRem har (b := 8)
      have e4 : ar.ib .mul .i64 8 (ar.ib .rem .i64 pi 8) = ((8 * (p % 8) : Nat) : Int) := by rw [e3, iMul har (by omega)]; omega
      obtain ⟨v, hv⟩ : ∃ v : Int, v = ((n / 2 ^ (64 * (p / 8)) % 18446744073709551616 : Nat) : Int) := ⟨_, rfl⟩
      have n2 : ar.nat (ar.ib .quo .i64 pi 8) = p / 8 := natOf har e2
      have n1 : ar.nat (ar.ib .sub .i64 31 pi) = 31 - p := natOf har e1
      have rx : x[ar.nat (ar.ib .quo .i64 pi 8)]? = some (.int .u64 v) := by rw [n2, hx, hv]; exact w4_get n (by omega)
      have b2 : 0 ≤ ar.ib .quo .i64 pi 8 ∧ ar.ib .quo .i64 pi 8 < 4 := by rw [e2]; omega
      have e5 : ar.cv .u64 (ar.ib .mul .i64 8 (ar.ib .rem .i64 pi 8)) = ((8 * (p % 8) : Nat) : Int) := by rw [cvU64 har (by rw [e4]; omega), e4]
      have b4 : 0 ≤ ar.cv .u64 (ar.ib .mul .i64 8 (ar.ib .rem .i64 pi 8)) := by rw [e5]; omega
      have b1 : 0 ≤ ar.ib .sub .i64 31 pi ∧ ar.ib .sub .i64 31 pi < 32 := by rw [e1]; omega
      have b5 : ar.nat (ar.ib .sub .i64 31 pi) < 32 := by rw [n1]; omega
      have hbyte : ar.cv .u8 (ar.ib .shr .u64 v (ar.cv .u64 (ar.ib .mul .i64 8 (ar.ib .rem .i64 pi 8)))) = ((n / 256 ^ p % 256 : Nat) : Int) := by
        rw [e5, shr_lit har hv (by simp [IntKind.bits]; omega), cvU8 har, ← byte_word]; omega
      have hset : ar.set Z (ar.nat (ar.ib .sub .i64 31 pi)) (.int .u8 (ar.cv .u8 (ar.ib .shr .u64 v (ar.cv .u64 (ar.ib .mul .i64 8 (ar.ib .rem .i64 pi 8)))))) = List.replicate (32 - (p + 1)) (.int .u8 0) ++ u8s (be n (p + 1)) := by
        rw [setIs har, n1, hbyte, hZ, show 32 - p = (32 - (p + 1)) + 1 by omega, List.replicate_succ', List.append_assoc, show 31 - p = 32 - (p + 1) by omega,
          List.set_append_right _ _ (by simp), List.length_replicate, Nat.sub_self]
        rfl
      obtain ⟨Z', hZ'⟩ : ∃ Z', Z' = ar.set Z (ar.nat (ar.ib .sub .i64 31 pi)) (.int .u8 (ar.cv .u8 (ar.ib .shr .u64 v (ar.cv .u64 (ar.ib .mul .i64 8 (ar.ib .rem .i64 pi 8)))))) := ⟨_, rfl⟩
      conv => cbv
      refine ⟨fun _ => b2, _, rx, ?_⟩
      conv => cbv
      refine ⟨fun _ => b4, fun _ => b1, fun _ => b5, ?_⟩
      refine ⟨⟨(p + 1, ar.ib .add .i64 pi 1, ar.set Z (ar.nat (ar.ib .sub .i64 31 pi)) (.int .u8 (ar.cv .u8 (ar.ib .shr .u64 v (ar.cv .u64 (ar.ib .mul .i64 8 (ar.ib .rem .i64 pi 8))))))), hlt, iSucc har hpi (by omega), hset⟩, ?_, ?_⟩
      · dsimp only
        conv => cbv
        simp
      · show 32 - (p + 1) < 32 - p
        omega
    · have hge : p = 32 := by have := cNlt har h; omega
      have hZ2 : Z = u8s (be n 32) := by rw [hZ, hge]; rfl
      rw [← hZ2] at hk
      conv => cbv
      exact hk

end Go.Eng
namespace Go.Eng
open Go Go.Proofs
set_option maxRecDepth 100000
set_option linter.unusedVariables false

/-- Without leading zeros. -/
def sk : List Int → List Int
  | [] => []
  | x :: l => if x = 0 then sk l else x :: l
theorem sk_snoc (b : Int) : ∀ l, sk (l ++ [b]) = if sk l = [] ∧ b = 0 then [] else sk l ++ [b]
  | [] => by simp only [List.nil_append, sk]; by_cases h : b = 0 <;> simp [h]
  | x :: l => by
    rw [List.cons_append, sk, sk]
    by_cases h : x = 0
    · rw [if_pos h, if_pos h, sk_snoc b l]
    · rw [if_neg h, if_neg h, if_neg (by simp)]; rfl
theorem bl_lt (n : Nat) : n < 2 ^ bl n := by
  unfold bl; split
  · omega
  · exact (Nat.log2_lt (by assumption)).1 (Nat.lt_succ_self _)
theorem bl_ge {n : Nat} (h : n ≠ 0) : 2 ^ (bl n - 1) ≤ n := by
  unfold bl; rw [if_neg h]; exact Nat.log2_self_le h
theorem sk_be (n : Nat) : ∀ k, blen n ≤ k → sk (be n k) = be n (blen n)
  | 0, h => by rw [Nat.le_zero.1 h]; rfl
  | k + 1, h => by
    rcases Nat.lt_or_ge k (blen n) with h1 | h1
    · rw [show blen n = k + 1 by omega, be, sk, if_neg]
      have hn : n ≠ 0 := by rintro rfl; simp [blen, bl] at h1
      have g1 := bl_ge hn
      have g2 := bl_lt n
      have e : (256 : Nat) ^ k = 2 ^ (8 * k) := by rw [Nat.pow_mul]
      have l1 : 2 ^ (8 * k) ≤ n := Nat.le_trans (Nat.pow_le_pow_right (by omega) (by unfold blen at h1 h; omega)) g1
      have l2 : n < 2 ^ (8 * k) * 256 := Nat.lt_of_lt_of_le g2 (by
        rw [show (256 : Nat) = 2 ^ 8 from rfl, ← Nat.pow_add]; exact Nat.pow_le_pow_right (by omega) (by unfold blen at h1 h; omega))
      rw [e]
      have p1 : 0 < 2 ^ (8 * k) := Nat.pow_pos (by omega)
      have q1 : 1 ≤ n / 2 ^ (8 * k) := (Nat.le_div_iff_mul_le p1).2 (by omega)
      have q2 : n / 2 ^ (8 * k) < 256 := (Nat.div_lt_iff_lt_mul p1).2 (by rw [Nat.mul_comm]; exact l2)
      omega
    · rw [be, sk, if_pos, sk_be n k h1]
      have g2 := bl_lt n
      have : n < 256 ^ k := Nat.lt_of_lt_of_le g2 (by
        rw [show (256 : Nat) ^ k = 2 ^ (8 * k) by rw [Nat.pow_mul]]; exact Nat.pow_le_pow_right (by omega) (by unfold blen at h1 h; omega))
      rw [Nat.div_eq_of_lt this]; rfl

theorem refBytes_sound : Sound Tryd.prog 61 fun args k => ∃ n : Nat, args = [pw n] ∧ n < M256 ∧ k [.s (.sl ((numB n).map b8) [])] := by
  refine Sound.of_body tt_ok ent_ok Tryd.func61 rfl ?_
  rintro ar har Γ hΓ args k ⟨n, hargs, hn, hk⟩
  obtain ⟨x, hx⟩ : ∃ x, x = w4 n := ⟨_, rfl⟩
  obtain ⟨B, hB⟩ : ∃ x, x = be n 32 := ⟨_, rfl⟩
  obtain ⟨X, hX⟩ : ∃ x, x = u8s B := ⟨_, rfl⟩
  have hBl : B.length = 32 := by rw [hB, be_length]
  have hfin : numB n = sk B := by rw [hB, sk_be n 32 (blen_le hn)]; rfl
  have callP : ∀ (Γ : Ctx) (d' : Nat) (k : List PR → Prop) (R : Prop), Γ = ctx Tryd.prog d' → k [.a [.r 32 X]] → Γ.g 87 [.a [.r 4 x]] k ∨ R := fun Γ d' k R hΓ hk => call_by hΓ refPut_sound ⟨n, by unfold pw; rw [hx], by rw [← hB, ← hX]; exact hk⟩
  rw [hfin] at hk
  unfold pw at hargs
  rw [← hx] at hargs
  subst hargs
  conv => cbv
  refine callP _ _ _ _ hΓ ?_
  conv => cbv
  refine .inr ⟨{ q : Nat × Int × List (List PS) // q.1 ≤ 32 ∧ q.2.1 = q.1 ∧ q.2.2 = (sk (B.take q.1)).map b8 },
    fun q => ⟨mk 28 [(2, .s .nil), (3, .s (.ptr 1 0)), (4, .s (.own 2)), (5, pint q.1.2.1)], [.gone, .box [.r 32 X], .arr q.1.2.2 5 1 1 true]⟩,
    fun q => 32 - q.1.1, [.slot 4 5], _, ⟨(0, 0, []), Nat.zero_le _, rfl, rfl⟩, rfl, ?_, ?_⟩
  · conv => cbv
    simp
  rintro ⟨⟨p, pi, Z⟩, hq⟩
  have hp : p ≤ 32 := hq.1
  have hpi : pi = (p : Int) := hq.2.1
  have hZ : Z = (sk (B.take p)).map b8 := hq.2.2
  have hZl : ar.len Z = ((sk (B.take p)).length : Int) := by rw [lenIs har, hZ, List.length_map]
  dsimp only
  conv => cbv
  refine ⟨fun h => ?_, fun h => ?_⟩
  · have hlt : p < 32 := by have := cLt har (b := 32) h; omega
    obtain ⟨v, hv⟩ : ∃ v, B[p]? = some v := ⟨_, List.getElem?_eq_getElem (by omega)⟩
    have np : ar.nat pi = p := natOf har hpi
    have rx : X[ar.nat pi]? = some (.int .u8 v) := by rw [np, hX, u8s, List.getElem?_map, hv]; rfl
    have b1 : 0 ≤ pi ∧ pi < 32 := by omega
    have htk : sk (B.take (p + 1)) = if sk (B.take p) = [] ∧ v = 0 then [] else sk (B.take p) ++ [v] := by
      rw [take_succ_get hv, sk_snoc]
    have hsl : (sk (B.take p)).length ≤ 32 := by
      have : ∀ l : List Int, (sk l).length ≤ l.length := fun l => by
        induction l with
        | nil => exact Nat.le_refl _
        | cons y l ih => rw [sk]; split <;> simp <;> omega
      have h2 := this (B.take p)
      rw [List.length_take] at h2; omega
    have s1 : (Z.length + 1) * 1 ≤ 140737488355328 ∧ ∀ y ∈ [[PS.c (.v (.int .u8 v))]], rlen y = 1 := ⟨by rw [hZ, List.length_map]; omega, by simp [rlen, PS.len]⟩
    have hput : ¬ (sk (B.take p) = [] ∧ v = 0) → ar.app Z [[PS.c (.v (.int .u8 v))]] = (sk (B.take (p + 1))).map b8 := fun hc => by
      rw [appIs har, htk, if_neg hc, hZ, List.map_append]; rfl
    conv => cbv
    refine ⟨fun h => ?_, fun h => ?_⟩
    · have g := cNgt har (a := ar.len Z) (b := 0) h
      have hs : sk (B.take p) = [] := List.eq_nil_of_length_eq_zero (by omega)
      conv => cbv
      refine ⟨fun _ => b1, _, rx, ?_⟩
      conv => cbv
      refine ⟨fun h => ?_, fun h => ?_⟩
      · have g2 := cNe har (a := v) (b := 0) h
        conv => cbv
        refine ⟨fun _ => b1, _, rx, ?_⟩
        conv => cbv
        refine ⟨fun _ => s1, ?_⟩
        refine ⟨⟨(p + 1, ar.ib .add .i64 pi 1, ar.app Z [[PS.c (.v (.int .u8 v))]]), hlt, iSucc har hpi (by omega), hput (by rintro ⟨_, h0⟩; exact g2 h0)⟩, ?_, ?_⟩
        · dsimp only
          conv => cbv
          simp
        · show 32 - (p + 1) < 32 - p
          omega
      · have g2 := cNne har (a := v) (b := 0) h
        conv => cbv
        refine ⟨⟨(p + 1, ar.ib .add .i64 pi 1, Z), hlt, iSucc har hpi (by omega), by show Z = _; rw [htk, if_pos ⟨hs, g2⟩, hZ, hs]⟩, ?_, ?_⟩
        · dsimp only
          conv => cbv
          simp
        · show 32 - (p + 1) < 32 - p
          omega
    · have g := cGt har (a := ar.len Z) (b := 0) h
      have hs : sk (B.take p) ≠ [] := fun h0 => by rw [hZl, h0] at g; simp at g
      conv => cbv
      refine ⟨fun _ => b1, _, rx, ?_⟩
      conv => cbv
      refine ⟨fun _ => s1, ?_⟩
      refine ⟨⟨(p + 1, ar.ib .add .i64 pi 1, ar.app Z [[PS.c (.v (.int .u8 v))]]), hlt, iSucc har hpi (by omega), hput (by rintro ⟨h0, _⟩; exact hs h0)⟩, ?_, ?_⟩
      · dsimp only
        conv => cbv
        simp
      · show 32 - (p + 1) < 32 - p
        omega
  have hge : p = 32 := by have := cNlt har (b := 32) h; omega
  have hZ2 : Z = (sk B).map b8 := by rw [hZ, hge, List.take_of_length_le (by omega)]
  rw [← hZ2] at hk
  conv => cbv
  exact hk

theorem refNumber_sound : Sound Tryd.prog 38 fun args k => ∃ n : Nat, args = [pw n] ∧ n < M256 ∧ k [.a (numIt n).row] := by
  refine Sound.of_body tt_ok ent_ok Tryd.func38 rfl ?_
  rintro ar har Γ hΓ args k ⟨n, hargs, hn, hk⟩
  obtain ⟨x, hx⟩ : ∃ x, x = w4 n := ⟨_, rfl⟩
  obtain ⟨D, hD⟩ : ∃ D, D = (numB n).map b8 := ⟨_, rfl⟩
  have hk : k [.a (rtx D)] := by rw [hD]; exact hk
  have hcall : ∀ (Γ : Ctx) (d' : Nat) (k : List PR → Prop) (R : Prop), Γ = ctx Tryd.prog d' → k [.s (.sl D [])] → Γ.g 61 [.a [.r 4 x]] k ∨ R := fun Γ d' k R hΓ hk => call_by hΓ refBytes_sound ⟨n, by unfold pw; rw [hx], hn, by rw [hD] at hk; exact hk⟩
  unfold pw at hargs
  rw [← hx] at hargs
  subst hargs
  conv => cbv
  refine hcall _ _ _ _ hΓ ?_
  conv => cbv
  exact hk

theorem ref7Small_sound : Sound Tryd.prog 40 fun args k => ∃ n : Nat, args = [.s (.v (.int .u64 n))] ∧ n < 18446744073709551616 ∧ k [.a (numIt n).row] := by
  refine Sound.of_body tt_ok ent_ok Tryd.func40 rfl ?_
  rintro ar har Γ hΓ args k ⟨n, hargs, hn, hk⟩
  obtain ⟨z, hz⟩ : ∃ z : Int, z = (n : Int) := ⟨_, rfl⟩
  obtain ⟨x, hx⟩ : ∃ x, x = w4 n := ⟨_, rfl⟩
  obtain ⟨D, hD⟩ : ∃ D, D = (numB n).map b8 := ⟨_, rfl⟩
  have hk : k [.a (rtx D)] := by rw [hD]; exact hk
  have hcall1 : ∀ (Γ : Ctx) (d' : Nat) (k : List PR → Prop) (R : Prop), Γ = ctx Tryd.prog d' → k [.a [.r 4 x]] → Γ.g 62 [.s (.v (.int .u64 z))] k ∨ R := fun Γ d' k R hΓ hk => call_by hΓ refFrom_sound ⟨n, by rw [hz], hn, by unfold pw; rw [← hx]; exact hk⟩
  have hcall2 : ∀ (Γ : Ctx) (d' : Nat) (k : List PR → Prop) (R : Prop), Γ = ctx Tryd.prog d' → k [.a (rtx D)] → Γ.g 38 [.a [.r 4 x]] k ∨ R := fun Γ d' k R hΓ hk => call_by hΓ refNumber_sound ⟨n, by unfold pw; rw [hx], by unfold M256; omega, by rw [hD] at hk; exact hk⟩
  rw [← hz] at hargs
  subst hargs
  conv => cbv
  refine hcall1 _ _ _ _ hΓ ?_
  conv => cbv
  refine hcall2 _ _ _ _ hΓ ?_
  conv => cbv
  exact hk

theorem textOf_sound : Sound Tryd.prog 39 fun args k => ∃ (d : List Int) (sd : List (List PS)), args = [.s (.sl (d.map b8) sd)] ∧ d.length ≤ 2 ^ 40 ∧ k [.a (It.txt d).row] := by
  refine Sound.of_body tt_ok ent_ok Tryd.func39 rfl ?_
  rintro ar har Γ hΓ args k ⟨d, sd, hargs, hl, hk⟩
  obtain ⟨D, hD⟩ : ∃ D, D = d.map b8 := ⟨_, rfl⟩
  have hDn : D.length = d.length := by rw [hD, List.length_map]
  have hD1 : ∀ y ∈ D, rlen y = 1 := by rw [hD]; exact b8_all _
  have hk : k [.a (rtx D)] := by rw [hD]; exact hk
  have s1 : (0 + D.length) * 1 ≤ 140737488355328 ∧ ∀ y ∈ D, rlen y = 1 := ⟨by omega, hD1⟩
  have e1 : ar.app [] D = D := by rw [appIs har]; rfl
  rw [← e1] at hk
  rw [← hD] at hargs
  subst hargs
  conv => cbv
  refine ⟨fun _ => s1, ?_⟩
  conv => cbv
  exact hk
end Go.Eng
namespace Go.Eng
open Go Go.Proofs
set_option maxRecDepth 100000
set_option linter.unusedVariables false

def rls (I : List (List PS)) : List PS := [.c (.v (.bool true)), .c (.sl [] []), .c (.sl I [])]

theorem before_sound : Sound Tryd.prog 91 fun args k => ∃ (n : Nat) (f : Int), args = [.s (.v (.int .i64 n)), .s (.v (.int .i64 f))] ∧ 0 ≤ f ∧ f ≤ 192 ∧ n < 4611686018427387904 ∧ k [.s (.sl ((hd f n).map b8) [])] := by
  refine Sound.of_body tt_ok ent_ok Tryd.func91 rfl ?_
  rintro ar har Γ hΓ args k ⟨n, f, hargs, hf0, hf, hn, hk⟩
  obtain ⟨x, hx⟩ : ∃ x : Int, x = n := ⟨_, rfl⟩
  rw [← hx] at hargs
  subst hargs
  conv => cbv
  refine ⟨fun h => ?_, fun h => ?_⟩
  · have g := cLe har h
    rw [hd, if_pos (by omega)] at hk
    have e : ar.cv .u8 (ar.ib .add .i64 f x) = (f + n) % 256 := by
      rw [cvU8 har, iAdd har (by omega), hx]
    rw [← e] at hk
    conv => cbv
    exact hk
  · have g := cNle har h
    rw [hd, if_neg (by omega)] at hk
    obtain ⟨w, hw⟩ : ∃ w, w = w4 n := ⟨_, rfl⟩
    obtain ⟨B, hB⟩ : ∃ B, B = (numB n).map b8 := ⟨_, rfl⟩
    have hBl : B.length = blen n := by rw [hB, List.length_map, numB, be_length]
    have hbl := blen_le (n := n) (by unfold M256; omega)
    have hfrom : ∀ (Γ : Ctx) (d' : Nat) (k : List PR → Prop) (R : Prop), Γ = ctx Tryd.prog d' → k [.a [.r 4 w]] → Γ.g 62 [.s (.v (.int .u64 (ar.cv .u64 x)))] k ∨ R := fun Γ d' k R hΓ hk => call_by hΓ refFrom_sound ⟨n, by rw [cvU64 har (by omega), hx], by omega, by unfold pw; rw [← hw]; exact hk⟩
    have hbytes : ∀ (Γ : Ctx) (d' : Nat) (k : List PR → Prop) (R : Prop), Γ = ctx Tryd.prog d' → k [.s (.sl B [])] → Γ.g 61 [.a [.r 4 w]] k ∨ R := fun Γ d' k R hΓ hk => call_by hΓ refBytes_sound ⟨n, by unfold pw; rw [hw], by unfold M256; omega, by rw [← hB]; exact hk⟩
    have hfirst : ar.cv .u8 (ar.ib .add .i64 (ar.ib .add .i64 f 55) (ar.len B)) = (f + 55 + blen n) % 256 := by
      have e1 : ar.ib .add .i64 f 55 = f + 55 := iAdd har (by omega)
      rw [lenIs har, hBl, cvU8 har, e1, iAdd har (by omega)]
    have hres : ar.app [b8 (ar.cv .u8 (ar.ib .add .i64 (ar.ib .add .i64 f 55) (ar.len B)))] B = ((f + 55 + blen n) % 256 :: be n (blen n)).map b8 := by
      rw [appIs har, hfirst, List.map_cons, hB]; rfl
    have s1 : (1 + B.length) * 1 ≤ 140737488355328 ∧ ∀ y ∈ B, rlen y = 1 := ⟨by rw [hBl]; omega, by rw [hB]; exact b8_all _⟩
    rw [← hres] at hk
    conv => cbv
    refine hfrom _ _ _ _ hΓ ?_
    conv => cbv
    refine hbytes _ _ _ _ hΓ ?_
    conv => cbv
    exact ⟨fun _ => s1, hk⟩

theorem oddT_sound : Sound Tryd.prog 115 fun args k => ∃ D : List (List PS), args = [.a (rtx D)] ∧ k [.s (.v (.bool false))] := by
  refine Sound.of_body tt_ok ent_ok Tryd.func115 rfl ?_
  rintro ar har Γ hΓ args k ⟨D, hargs, hk⟩
  have e : ar.cb .gtr (ar.len []) 0 = false := by rw [har]; rfl
  rw [← e] at hk
  unfold rtx at hargs
  subst hargs
  conv => cbv
  refine onF rfl ?_
  conv => cbv
  exact hk

theorem oddL_sound : Sound Tryd.prog 115 fun args k => ∃ I : List (List PS), args = [.a (rls I)] ∧ k [.s (.v (.bool false))] := by
  refine Sound.of_body tt_ok ent_ok Tryd.func115 rfl ?_
  rintro ar har Γ hΓ args k ⟨D, hargs, hk⟩
  have e : ar.cb .gtr (ar.len []) 0 = false := by rw [har]; rfl
  rw [← e] at hk
  unfold rls at hargs
  subst hargs
  conv => cbv
  refine onT rfl ?_
  conv => cbv
  exact hk

theorem oddlyT_sound : Sound Tryd.prog 88 fun args k => ∃ D : List (List PS), args = [.a (rtx D)] ∧ k [.s (.v (.bool false))] := by
  refine Sound.of_body tt_ok ent_ok Tryd.func88 rfl ?_
  rintro ar har Γ hΓ args k ⟨D, hargs, hk⟩
  have c1 : ∀ (Γ : Ctx) (d' : Nat) (k : List PR → Prop) (R : Prop), Γ = ctx Tryd.prog d' → k [.s (.v (.bool false))] → Γ.g 115 [.a (rtx D)] k ∨ R := fun Γ d' k R hΓ hk => call_by hΓ oddT_sound ⟨D, rfl, hk⟩
  unfold rtx at hargs c1
  have e : ar.cb .lss 0 (ar.len []) = false := by rw [har]; rfl
  subst hargs
  conv => cbv
  refine c1 _ _ _ _ hΓ ?_
  conv => cbv
  refine onF rfl ?_
  conv => cbv
  refine .inl ⟨1, ?_⟩
  conv => cbv
  refine onF e ?_
  conv => cbv
  exact hk

theorem oddlyL_sound : Sound Tryd.prog 88 fun args k => ∃ ts : List (List Int), args = [.a (It.lst (ts.map It.txt)).row] ∧ ts.length ≤ 1000 ∧ k [.s (.v (.bool false))] := by
  refine Sound.of_body tt_ok ent_ok Tryd.func88 rfl ?_
  rintro ar har Γ hΓ args k ⟨ts, hargs, hl, hk⟩
  obtain ⟨I, hI⟩ : ∃ I, I = rowsOf (ts.map It.txt) := ⟨_, rfl⟩
  have hIl : ar.len I = (ts.length : Int) := by rw [lenIs har, hI, rowsOf_length, List.length_map]
  have hrow : (It.lst (ts.map It.txt)).row = rls I := by rw [hI]; rfl
  have c1 : ∀ (Γ : Ctx) (d' : Nat) (k : List PR → Prop) (R : Prop), Γ = ctx Tryd.prog d' → k [.s (.v (.bool false))] → Γ.g 115 [.a (rls I)] k ∨ R := fun Γ d' k R hΓ hk => call_by hΓ oddL_sound ⟨I, rfl, hk⟩
  have c2 : ∀ (D : List (List PS)) (Γ : Ctx) (d' : Nat) (k : List PR → Prop) (R : Prop), Γ = ctx Tryd.prog d' → k [.s (.v (.bool false))] → Γ.g 88 [.a (rtx D)] k ∨ R := fun D Γ d' k R hΓ hk => call_by hΓ oddlyT_sound ⟨D, rfl, hk⟩
  rw [hrow] at hargs
  unfold rls at hargs c1
  unfold rtx at c2
  subst hargs
  conv => cbv
  refine c1 _ _ _ _ hΓ ?_
  conv => cbv
  refine onF rfl ?_
  conv => cbv
  refine .inr ⟨{ q : Nat × Int // q.1 ≤ ts.length ∧ q.2 = q.1 },
    fun q => ⟨mk 19 [(1, .s (.ptr 0 0)), (2, .s (.bl false)), (3, pint q.1.2)], [.box [.c (.p (.v (.bool true))), .c (.p (.sl [] [])), .c (.p (.sl I []))]]⟩,
    fun q => ts.length - q.1.1, [], _, ⟨(0, 0), Nat.zero_le _, rfl⟩, rfl, ?_, ?_⟩
  · conv => cbv
    simp
  rintro ⟨⟨p, pi⟩, hq⟩
  have hp : p ≤ ts.length := hq.1
  have hpi : pi = (p : Int) := hq.2
  dsimp only
  conv => cbv
  refine ⟨fun h => ?_, fun h => ?_⟩
  · have g' := cLt har (b := ar.len I) h
    have hlt : p < ts.length := by omega
    obtain ⟨d, hd'⟩ : ∃ t, ts[p]? = some t := ⟨_, List.getElem?_eq_getElem hlt⟩
    obtain ⟨D, hD⟩ : ∃ D, D = d.map b8 := ⟨_, rfl⟩
    have rx : I[pi.toNat]? = some [.c (.v (.bool false)), .c (.sl D []), .c (.sl [] [])] := by
      rw [hI, hpi, Int.toNat_natCast, rowsOf_get (x := It.txt d) (by rw [List.getElem?_map, hd']; rfl), hD]; rfl
    conv => cbv
    refine ⟨_, by omega, rx, rfl, ?_⟩
    conv => cbv
    refine c2 _ _ _ _ _ hΓ ?_
    conv => cbv
    refine onF rfl ?_
    conv => cbv
    refine ⟨⟨(p + 1, ar.ib .add .i64 pi 1), hlt, iSucc har hpi (by omega)⟩, ?_, ?_⟩
    · dsimp only
      conv => cbv
      simp
    · show ts.length - (p + 1) < ts.length - p
      omega
  conv => cbv
  exact hk

theorem depthT_sound : Sound Tryd.prog 89 fun args k => ∃ D : List (List PS), args = [.a (rtx D)] ∧ k [.s (.v (.int .i64 0))] := by
  refine Sound.of_body tt_ok ent_ok Tryd.func89 rfl ?_
  rintro ar har Γ hΓ args k ⟨D, hargs, hk⟩
  have n2 : ar.nb false = true := by rw [har]; rfl
  unfold rtx at hargs
  subst hargs
  conv => cbv
  refine onT n2 ?_
  conv => cbv
  exact hk

theorem depthL_sound : Sound Tryd.prog 89 fun args k => ∃ ts : List (List Int), args = [.a (It.lst (ts.map It.txt)).row] ∧ ts.length ≤ 1000 ∧ k [.s (.v (.int .i64 1))] := by
  refine Sound.of_body tt_ok ent_ok Tryd.func89 rfl ?_
  rintro ar har Γ hΓ args k ⟨ts, hargs, hl, hk⟩
  obtain ⟨I, hI⟩ : ∃ I, I = rowsOf (ts.map It.txt) := ⟨_, rfl⟩
  have hIl : ar.len I = (ts.length : Int) := by rw [lenIs har, hI, rowsOf_length, List.length_map]
  have hrow : (It.lst (ts.map It.txt)).row = rls I := by rw [hI]; rfl
  have c2 : ∀ (D : List (List PS)) (Γ : Ctx) (d' : Nat) (k : List PR → Prop) (R : Prop), Γ = ctx Tryd.prog d' → k [.s (.v (.int .i64 0))] → Γ.g 89 [.a (rtx D)] k ∨ R := fun D Γ d' k R hΓ hk => call_by hΓ depthT_sound ⟨D, rfl, hk⟩
  have n1 : ar.nb true = false := by rw [har]; rfl
  rw [hrow] at hargs
  unfold rls at hargs
  unfold rtx at c2
  subst hargs
  conv => cbv
  refine onF n1 ?_
  conv => cbv
  refine .inr ⟨{ q : Nat × Int × Int // q.1 ≤ ts.length ∧ q.2.1 = q.1 ∧ q.2.2 = 0 },
    fun q => ⟨mk 25 [(1, .s (.ptr 0 0)), (2, .s (.lit .i64 0)), (3, pint q.1.2.2), (4, pint q.1.2.1)], [.box [.c (.p (.v (.bool true))), .c (.p (.sl [] [])), .c (.p (.sl I []))]]⟩,
    fun q => ts.length - q.1.1, [], _, ⟨(0, 0, 0), Nat.zero_le _, rfl, rfl⟩, rfl, ?_, ?_⟩
  · conv => cbv
    simp
  rintro ⟨⟨p, pi, m⟩, hq⟩
  have hp : p ≤ ts.length := hq.1
  have hpi : pi = (p : Int) := hq.2.1
  have hm : m = 0 := hq.2.2
  dsimp only
  conv => cbv
  refine ⟨fun h => ?_, fun h => ?_⟩
  · have g' := cLt har (b := ar.len I) h
    have hlt : p < ts.length := by omega
    obtain ⟨d, hd'⟩ : ∃ t, ts[p]? = some t := ⟨_, List.getElem?_eq_getElem hlt⟩
    obtain ⟨D, hD⟩ : ∃ D, D = d.map b8 := ⟨_, rfl⟩
    have rx : I[pi.toNat]? = some [.c (.v (.bool false)), .c (.sl D []), .c (.sl [] [])] := by
      rw [hI, hpi, Int.toNat_natCast, rowsOf_get (x := It.txt d) (by rw [List.getElem?_map, hd']; rfl), hD]; rfl
    conv => cbv
    refine ⟨_, by omega, rx, rfl, ?_⟩
    conv => cbv
    refine c2 _ _ _ _ _ hΓ ?_
    conv => cbv
    obtain ⟨mx, hmx⟩ : ∃ mx, mx = max m 0 := ⟨_, rfl⟩
    refine ⟨max m 0, fun _ => rfl, ?_⟩
    rw [← hmx]
    conv => cbv
    refine ⟨⟨(p + 1, ar.ib .add .i64 pi 1, mx), hlt, iSucc har hpi (by omega), by show mx = 0; omega⟩, ?_, ?_⟩
    · dsimp only
      conv => cbv
      simp
    · show ts.length - (p + 1) < ts.length - p
      omega
  have hk : k [.s (.v (.int .i64 (ar.ib .add .i64 1 m)))] := by rw [hm, iAdd har (by omega)]; exact hk
  conv => cbv
  exact hk
end Go.Eng
