/-
  The reference's numbers as bytes: From, Put, Bytes; items of them. No condition.
  The reference's Bytes, Number, Small; textOf. No condition (textOf: at most 2^40 bytes).
  The reference's before, odd, oddly, depth, of texts and of lists of texts.
  The reference's size, Check and Encode, of texts and of lists of texts; put walked in place. Condition: at most 1000 texts, at most 2^20 bytes.
  The reference's size of a list of texts, Check, Encode; put walked in place. Condition: at most 1000 texts, at most 2^20 bytes.
  The reference's odd, oddly, depth, size, Check of any tree, by induction on its bulk. Condition: bulk at most 2^40.
  The reference's size and Check of any tree, by induction on its bulk. Condition: bulk at most 2^40.
  The reference's Size, sized, AuthItem. Conditions: sizes up to 2^40.
-/
import Derived.Test.YtgihmigiecfmaaaLA
namespace Go.Eng
open Go Go.Proofs
set_option maxRecDepth 100000
set_option linter.unusedVariables false

theorem refFrom_sound : Sound Try.prog 48 fun args k => ∃ n : Nat, args = [.s (.v (.int .u64 n))] ∧ n < 18446744073709551616 ∧ k [pw n] := by
  refine Sound.of_body tt_ok ent_ok Try.func48 rfl ?_
  rintro ar har Γ hΓ args k ⟨n, rfl, hn, hk⟩
  have hw : w4 n = [.int .u64 n, .int .u64 0, .int .u64 0, .int .u64 0] := by
    unfold w4
    rw [Nat.mod_eq_of_lt hn, show n / 18446744073709551616 % 18446744073709551616 = 0 by omega, show n / 340282366920938463463374607431768211456 % 18446744073709551616 = 0 by omega, show n / 6277101735386680763835789423207666416102355444464034512896 % 18446744073709551616 = 0 by omega]; rfl
  unfold pw at hk
  rw [hw] at hk
  obtain ⟨z, hz⟩ : ∃ z : Int, z = (n : Int) := ⟨_, rfl⟩
  rw [← hz] at hk ⊢
  conv => cbv
  exact hk

theorem refPut_sound : Sound Try.prog 62 fun args k => ∃ n : Nat, args = [pw n] ∧ k [.a [.r 32 (u8s (be n 32))]] := by
  refine Sound.of_body tt_ok ent_ok Try.func62 rfl ?_
  rintro ar har Γ hΓ args k ⟨n, hargs, hk⟩
  obtain ⟨x, hx⟩ : ∃ x, x = w4 n := ⟨_, rfl⟩
  obtain ⟨zs, hzs⟩ : ∃ zs : List Value, zs = List.replicate 32 (.int .u8 0) := ⟨_, rfl⟩
  unfold pw at hargs
  rw [← hx] at hargs
  subst hargs
  conv => cbv
  refine .inr ⟨{ q : Nat × Int × List Value // q.1 ≤ 32 ∧ q.2.1 = q.1 ∧ q.2.2 = List.replicate (32 - q.1) (.int .u8 0) ++ u8s (be n q.1) },
    fun q => ⟨mk 23 [(1, .s (.ptr 0 0)), (2, .s (.ptr 1 0)), (3, .s (.ptr 2 0)), (4, pint q.1.2.1)], [.box [.r 4 x], .box [.r 32 zs], .box [.r 32 q.1.2.2]]⟩,
    fun q => 32 - q.1.1, [], _, ⟨(0, 0, zs), Nat.zero_le _, rfl, by rw [hzs]; rfl⟩, rfl, ?_, ?_⟩
  · subst hzs
    conv => cbv
    simp
  · rintro ⟨⟨p, pi, Z⟩, hq⟩
    have hp : p ≤ 32 := hq.1
    have hpi : pi = (p : Int) := hq.2.1
    have hZ : Z = List.replicate (32 - p) (.int .u8 0) ++ u8s (be n p) := hq.2.2
    dsimp only
    conv => cbv
    refine ⟨fun h => ?_, fun h => ?_⟩
    · have hlt : p < 32 := by have := cLt har h; omega
      have e1 : ar.ib .sub .i64 31 pi = ((31 - p : Nat) : Int) := by rw [iSub har (by omega)]; omega
      have e2 : ar.ib .quo .i64 pi 8 = ((p / 8 : Nat) : Int) := by rw [hpi]; exact iQuo har (b := 8) (by omega)
      have e3 : ar.ib .rem .i64 pi 8 = ((p % 8 : Nat) : Int) := by rw [hpi]; exact iRem har (b := 8)
      have e4 : ar.ib .mul .i64 8 (ar.ib .rem .i64 pi 8) = ((8 * (p % 8) : Nat) : Int) := by rw [e3, iMul har (by omega)]; omega
      obtain ⟨v, hv⟩ : ∃ v : Int, v = ((n / 2 ^ (64 * (p / 8)) % 18446744073709551616 : Nat) : Int) := ⟨_, rfl⟩
      have n2 : ar.nat (ar.ib .quo .i64 pi 8) = p / 8 := natOf har e2
      have n1 : ar.nat (ar.ib .sub .i64 31 pi) = 31 - p := natOf har e1
      have rx : x[ar.nat (ar.ib .quo .i64 pi 8)]? = some (.int .u64 v) := by rw [n2, hx, hv]; exact w4_get n (by omega)
      have b2 : 0 ≤ ar.ib .quo .i64 pi 8 ∧ ar.ib .quo .i64 pi 8 < 4 := by rw [e2]; omega
      have e5 : ar.cv .u64 (ar.ib .mul .i64 8 (ar.ib .rem .i64 pi 8)) = ((8 * (p % 8) : Nat) : Int) := by rw [cvU64 har (by rw [e4]; omega), e4]
      have b4 : 0 ≤ ar.cv .u64 (ar.ib .mul .i64 8 (ar.ib .rem .i64 pi 8)) := by rw [e5]; omega
      have b1 : 0 ≤ ar.ib .sub .i64 31 pi ∧ ar.ib .sub .i64 31 pi < 32 := by rw [e1]; omega
      have b5 : ar.nat (ar.ib .sub .i64 31 pi) < 32 := by rw [n1]; omega
      have hbyte : ar.cv .u8 (ar.ib .shr .u64 v (ar.cv .u64 (ar.ib .mul .i64 8 (ar.ib .rem .i64 pi 8)))) = ((n / 256 ^ p % 256 : Nat) : Int) := by
        rw [e5, shr_lit har hv (by simp [IntKind.bits]; omega), cvU8 har, ← byte_word]; omega
      have hset : ar.set Z (ar.nat (ar.ib .sub .i64 31 pi)) (.int .u8 (ar.cv .u8 (ar.ib .shr .u64 v (ar.cv .u64 (ar.ib .mul .i64 8 (ar.ib .rem .i64 pi 8)))))) = List.replicate (32 - (p + 1)) (.int .u8 0) ++ u8s (be n (p + 1)) := by
        rw [setIs har, n1, hbyte, hZ, show 32 - p = (32 - (p + 1)) + 1 by omega, List.replicate_succ', List.append_assoc, show 31 - p = 32 - (p + 1) by omega,
          List.set_append_right _ _ (by simp), List.length_replicate, Nat.sub_self]
        rfl
      obtain ⟨Z', hZ'⟩ : ∃ Z', Z' = ar.set Z (ar.nat (ar.ib .sub .i64 31 pi)) (.int .u8 (ar.cv .u8 (ar.ib .shr .u64 v (ar.cv .u64 (ar.ib .mul .i64 8 (ar.ib .rem .i64 pi 8)))))) := ⟨_, rfl⟩
      conv => cbv
      refine ⟨fun _ => b2, _, rx, ?_⟩
      conv => cbv
      refine ⟨fun _ => b4, fun _ => b1, fun _ => b5, ?_⟩
      refine ⟨⟨(p + 1, ar.ib .add .i64 pi 1, ar.set Z (ar.nat (ar.ib .sub .i64 31 pi)) (.int .u8 (ar.cv .u8 (ar.ib .shr .u64 v (ar.cv .u64 (ar.ib .mul .i64 8 (ar.ib .rem .i64 pi 8))))))), hlt, iSucc har hpi (by omega), hset⟩, ?_, ?_⟩
      · dsimp only
        conv => cbv
        simp
      · show 32 - (p + 1) < 32 - p
        omega
    · have hge : p = 32 := by have := cNlt har h; omega
      have hZ2 : Z = u8s (be n 32) := by rw [hZ, hge]; rfl
      rw [← hZ2] at hk
      conv => cbv
      exact hk

end Go.Eng
namespace Go.Eng
open Go Go.Proofs
set_option maxRecDepth 100000
set_option linter.unusedVariables false

/-- Without leading zeros. -/
def sk : List Int → List Int
  | [] => []
  | x :: l => if x = 0 then sk l else x :: l
theorem sk_snoc (b : Int) : ∀ l, sk (l ++ [b]) = if sk l = [] ∧ b = 0 then [] else sk l ++ [b]
  | [] => by simp only [List.nil_append, sk]; by_cases h : b = 0 <;> simp [h]
  | x :: l => by
    rw [List.cons_append, sk, sk]
    by_cases h : x = 0
    · rw [if_pos h, if_pos h, sk_snoc b l]
    · rw [if_neg h, if_neg h, if_neg (by simp)]; rfl
theorem bl_lt (n : Nat) : n < 2 ^ bl n := by
  unfold bl; split
  · omega
  · exact (Nat.log2_lt (by assumption)).1 (Nat.lt_succ_self _)
theorem bl_ge {n : Nat} (h : n ≠ 0) : 2 ^ (bl n - 1) ≤ n := by
  unfold bl; rw [if_neg h]; exact Nat.log2_self_le h
theorem sk_be (n : Nat) : ∀ k, blen n ≤ k → sk (be n k) = be n (blen n)
  | 0, h => by rw [Nat.le_zero.1 h]; rfl
  | k + 1, h => by
    rcases Nat.lt_or_ge k (blen n) with h1 | h1
    · rw [show blen n = k + 1 by omega, be, sk, if_neg]
      have hn : n ≠ 0 := by rintro rfl; simp [blen, bl] at h1
      have g1 := bl_ge hn
      have g2 := bl_lt n
      have e : (256 : Nat) ^ k = 2 ^ (8 * k) := by rw [Nat.pow_mul]
      have l1 : 2 ^ (8 * k) ≤ n := Nat.le_trans (Nat.pow_le_pow_right (by omega) (by unfold blen at h1 h; omega)) g1
      have l2 : n < 2 ^ (8 * k) * 256 := Nat.lt_of_lt_of_le g2 (by
        rw [show (256 : Nat) = 2 ^ 8 from rfl, ← Nat.pow_add]; exact Nat.pow_le_pow_right (by omega) (by unfold blen at h1 h; omega))
      rw [e]
      have p1 : 0 < 2 ^ (8 * k) := Nat.pow_pos (by omega)
      have q1 : 1 ≤ n / 2 ^ (8 * k) := (Nat.le_div_iff_mul_le p1).2 (by omega)
      have q2 : n / 2 ^ (8 * k) < 256 := (Nat.div_lt_iff_lt_mul p1).2 (by rw [Nat.mul_comm]; exact l2)
      omega
    · rw [be, sk, if_pos, sk_be n k h1]
      have g2 := bl_lt n
      have : n < 256 ^ k := Nat.lt_of_lt_of_le g2 (by
        rw [show (256 : Nat) ^ k = 2 ^ (8 * k) by rw [Nat.pow_mul]]; exact Nat.pow_le_pow_right (by omega) (by unfold blen at h1 h; omega))
      rw [Nat.div_eq_of_lt this]; rfl

theorem refBytes_sound : Sound Try.prog 47 fun args k => ∃ n : Nat, args = [pw n] ∧ n < M256 ∧ k [.s (.sl ((numB n).map b8) [])] := by
  refine Sound.of_body tt_ok ent_ok Try.func47 rfl ?_
  rintro ar har Γ hΓ args k ⟨n, hargs, hn, hk⟩
  obtain ⟨x, hx⟩ : ∃ x, x = w4 n := ⟨_, rfl⟩
  obtain ⟨B, hB⟩ : ∃ x, x = be n 32 := ⟨_, rfl⟩
  obtain ⟨X, hX⟩ : ∃ x, x = u8s B := ⟨_, rfl⟩
  have hBl : B.length = 32 := by rw [hB, be_length]
  have hfin : numB n = sk B := by rw [hB, sk_be n 32 (blen_le hn)]; rfl
  have callP : ∀ (Γ : Ctx) (d' : Nat) (k : List PR → Prop) (R : Prop), Γ = ctx Try.prog d' → k [.a [.r 32 X]] → Γ.g 62 [.a [.r 4 x]] k ∨ R := fun Γ d' k R hΓ hk => call_by hΓ refPut_sound ⟨n, by unfold pw; rw [hx], by rw [← hB, ← hX]; exact hk⟩
  rw [hfin] at hk
  unfold pw at hargs
  rw [← hx] at hargs
  subst hargs
  conv => cbv
  refine callP _ _ _ _ hΓ ?_
  conv => cbv
  refine .inr ⟨{ q : Nat × Int × List (List PS) // q.1 ≤ 32 ∧ q.2.1 = q.1 ∧ q.2.2 = (sk (B.take q.1)).map b8 },
    fun q => ⟨mk 28 [(2, .s .nil), (3, .s (.ptr 1 0)), (4, .s (.own 2)), (5, pint q.1.2.1)], [.gone, .box [.r 32 X], .arr q.1.2.2 5 1 1 true]⟩,
    fun q => 32 - q.1.1, [.slot 4 5], _, ⟨(0, 0, []), Nat.zero_le _, rfl, rfl⟩, rfl, ?_, ?_⟩
  · conv => cbv
    simp
  rintro ⟨⟨p, pi, Z⟩, hq⟩
  have hp : p ≤ 32 := hq.1
  have hpi : pi = (p : Int) := hq.2.1
  have hZ : Z = (sk (B.take p)).map b8 := hq.2.2
  have hZl : ar.len Z = ((sk (B.take p)).length : Int) := by rw [lenIs har, hZ, List.length_map]
  dsimp only
  conv => cbv
  refine ⟨fun h => ?_, fun h => ?_⟩
  · have hlt : p < 32 := by have := cLt har (b := 32) h; omega
    obtain ⟨v, hv⟩ : ∃ v, B[p]? = some v := ⟨_, List.getElem?_eq_getElem (by omega)⟩
    have np : ar.nat pi = p := natOf har hpi
    have rx : X[ar.nat pi]? = some (.int .u8 v) := by rw [np, hX, u8s, List.getElem?_map, hv]; rfl
    have b1 : 0 ≤ pi ∧ pi < 32 := by omega
    have htk : sk (B.take (p + 1)) = if sk (B.take p) = [] ∧ v = 0 then [] else sk (B.take p) ++ [v] := by
      rw [take_succ_get hv, sk_snoc]
    have hsl : (sk (B.take p)).length ≤ 32 := by
      have : ∀ l : List Int, (sk l).length ≤ l.length := fun l => by
        induction l with
        | nil => exact Nat.le_refl _
        | cons y l ih => rw [sk]; split <;> simp <;> omega
      have h2 := this (B.take p)
      rw [List.length_take] at h2; omega
    have s1 : (Z.length + 1) * 1 ≤ 140737488355328 ∧ ∀ y ∈ [[PS.c (.v (.int .u8 v))]], rlen y = 1 := ⟨by rw [hZ, List.length_map]; omega, by simp [rlen, PS.len]⟩
    have hput : ¬ (sk (B.take p) = [] ∧ v = 0) → ar.app Z [[PS.c (.v (.int .u8 v))]] = (sk (B.take (p + 1))).map b8 := fun hc => by
      rw [appIs har, htk, if_neg hc, hZ, List.map_append]; rfl
    conv => cbv
    refine ⟨fun h => ?_, fun h => ?_⟩
    · have g := cNgt har (a := ar.len Z) (b := 0) h
      have hs : sk (B.take p) = [] := List.eq_nil_of_length_eq_zero (by omega)
      conv => cbv
      refine ⟨fun _ => b1, _, rx, ?_⟩
      conv => cbv
      refine ⟨fun h => ?_, fun h => ?_⟩
      · have g2 := cNe har (a := v) (b := 0) h
        conv => cbv
        refine ⟨fun _ => b1, _, rx, ?_⟩
        conv => cbv
        refine ⟨fun _ => s1, ?_⟩
        refine ⟨⟨(p + 1, ar.ib .add .i64 pi 1, ar.app Z [[PS.c (.v (.int .u8 v))]]), hlt, iSucc har hpi (by omega), hput (by rintro ⟨_, h0⟩; exact g2 h0)⟩, ?_, ?_⟩
        · dsimp only
          conv => cbv
          simp
        · show 32 - (p + 1) < 32 - p
          omega
      · have g2 := cNne har (a := v) (b := 0) h
        conv => cbv
        refine ⟨⟨(p + 1, ar.ib .add .i64 pi 1, Z), hlt, iSucc har hpi (by omega), by show Z = _; rw [htk, if_pos ⟨hs, g2⟩, hZ, hs]⟩, ?_, ?_⟩
        · dsimp only
          conv => cbv
          simp
        · show 32 - (p + 1) < 32 - p
          omega
    · have g := cGt har (a := ar.len Z) (b := 0) h
      have hs : sk (B.take p) ≠ [] := fun h0 => by rw [hZl, h0] at g; simp at g
      conv => cbv
      refine ⟨fun _ => b1, _, rx, ?_⟩
      conv => cbv
      refine ⟨fun _ => s1, ?_⟩
      refine ⟨⟨(p + 1, ar.ib .add .i64 pi 1, ar.app Z [[PS.c (.v (.int .u8 v))]]), hlt, iSucc har hpi (by omega), hput (by rintro ⟨h0, _⟩; exact hs h0)⟩, ?_, ?_⟩
      · dsimp only
        conv => cbv
        simp
      · show 32 - (p + 1) < 32 - p
        omega
  have hge : p = 32 := by have := cNlt har (b := 32) h; omega
  have hZ2 : Z = (sk B).map b8 := by rw [hZ, hge, List.take_of_length_le (by omega)]
  rw [← hZ2] at hk
  conv => cbv
  exact hk

theorem refNumber_sound : Sound Try.prog 32 fun args k => ∃ n : Nat, args = [pw n] ∧ n < M256 ∧ k [.a (numIt n).row] := by
  refine Sound.of_body tt_ok ent_ok Try.func32 rfl ?_
  rintro ar har Γ hΓ args k ⟨n, hargs, hn, hk⟩
  obtain ⟨x, hx⟩ : ∃ x, x = w4 n := ⟨_, rfl⟩
  obtain ⟨D, hD⟩ : ∃ D, D = (numB n).map b8 := ⟨_, rfl⟩
  have hk : k [.a (rtx D)] := by rw [hD]; exact hk
  have hcall : ∀ (Γ : Ctx) (d' : Nat) (k : List PR → Prop) (R : Prop), Γ = ctx Try.prog d' → k [.s (.sl D [])] → Γ.g 47 [.a [.r 4 x]] k ∨ R := fun Γ d' k R hΓ hk => call_by hΓ refBytes_sound ⟨n, by unfold pw; rw [hx], hn, by rw [hD] at hk; exact hk⟩
  unfold pw at hargs
  rw [← hx] at hargs
  subst hargs
  conv => cbv
  refine hcall _ _ _ _ hΓ ?_
  conv => cbv
  exact hk

theorem ref7Small_sound : Sound Try.prog 33 fun args k => ∃ n : Nat, args = [.s (.v (.int .u64 n))] ∧ n < 18446744073709551616 ∧ k [.a (numIt n).row] := by
  refine Sound.of_body tt_ok ent_ok Try.func33 rfl ?_
  rintro ar har Γ hΓ args k ⟨n, hargs, hn, hk⟩
  obtain ⟨z, hz⟩ : ∃ z : Int, z = (n : Int) := ⟨_, rfl⟩
  obtain ⟨x, hx⟩ : ∃ x, x = w4 n := ⟨_, rfl⟩
  obtain ⟨D, hD⟩ : ∃ D, D = (numB n).map b8 := ⟨_, rfl⟩
  have hk : k [.a (rtx D)] := by rw [hD]; exact hk
  have hcall1 : ∀ (Γ : Ctx) (d' : Nat) (k : List PR → Prop) (R : Prop), Γ = ctx Try.prog d' → k [.a [.r 4 x]] → Γ.g 48 [.s (.v (.int .u64 z))] k ∨ R := fun Γ d' k R hΓ hk => call_by hΓ refFrom_sound ⟨n, by rw [hz], hn, by unfold pw; rw [← hx]; exact hk⟩
  have hcall2 : ∀ (Γ : Ctx) (d' : Nat) (k : List PR → Prop) (R : Prop), Γ = ctx Try.prog d' → k [.a (rtx D)] → Γ.g 32 [.a [.r 4 x]] k ∨ R := fun Γ d' k R hΓ hk => call_by hΓ refNumber_sound ⟨n, by unfold pw; rw [hx], by unfold M256; omega, by rw [hD] at hk; exact hk⟩
  rw [← hz] at hargs
  subst hargs
  conv => cbv
  refine hcall1 _ _ _ _ hΓ ?_
  conv => cbv
  refine hcall2 _ _ _ _ hΓ ?_
  conv => cbv
  exact hk

theorem textOf_sound : Sound Try.prog 28 fun args k => ∃ (d : List Int) (sd : List (List PS)), args = [.s (.sl (d.map b8) sd)] ∧ d.length ≤ 2 ^ 40 ∧ k [.a (It.txt d).row] := by
  refine Sound.of_body tt_ok ent_ok Try.func28 rfl ?_
  rintro ar har Γ hΓ args k ⟨d, sd, hargs, hl, hk⟩
  obtain ⟨D, hD⟩ : ∃ D, D = d.map b8 := ⟨_, rfl⟩
  have hDn : D.length = d.length := by rw [hD, List.length_map]
  have hD1 : ∀ y ∈ D, rlen y = 1 := by rw [hD]; exact b8_all _
  have hk : k [.a (rtx D)] := by rw [hD]; exact hk
  have s1 : (0 + D.length) * 1 ≤ 140737488355328 ∧ ∀ y ∈ D, rlen y = 1 := ⟨by omega, hD1⟩
  have e1 : ar.app [] D = D := by rw [appIs har]; rfl
  rw [← e1] at hk
  rw [← hD] at hargs
  subst hargs
  conv => cbv
  refine ⟨fun _ => s1, ?_⟩
  conv => cbv
  exact hk
end Go.Eng
namespace Go.Eng
open Go Go.Proofs
set_option maxRecDepth 100000
set_option linter.unusedVariables false

def rls (I : List (List PS)) : List PS := [.c (.v (.bool true)), .c (.sl [] []), .c (.sl I [])]

theorem before_sound : Sound Try.prog 75 fun args k => ∃ (n : Nat) (f : Int), args = [.s (.v (.int .i64 n)), .s (.v (.int .i64 f))] ∧ 0 ≤ f ∧ f ≤ 192 ∧ n < 4611686018427387904 ∧ k [.s (.sl ((hd f n).map b8) [])] := by
  refine Sound.of_body tt_ok ent_ok Try.func75 rfl ?_
  rintro ar har Γ hΓ args k ⟨n, f, hargs, hf0, hf, hn, hk⟩
  obtain ⟨x, hx⟩ : ∃ x : Int, x = n := ⟨_, rfl⟩
  rw [← hx] at hargs
  subst hargs
  conv => cbv
  refine ⟨fun h => ?_, fun h => ?_⟩
  · have g := cLe har h
    rw [hd, if_pos (by omega)] at hk
    have e : ar.cv .u8 (ar.ib .add .i64 f x) = (f + n) % 256 := by
      rw [cvU8 har, iAdd har (by omega), hx]
    rw [← e] at hk
    conv => cbv
    exact hk
  · have g := cNle har h
    rw [hd, if_neg (by omega)] at hk
    obtain ⟨w, hw⟩ : ∃ w, w = w4 n := ⟨_, rfl⟩
    obtain ⟨B, hB⟩ : ∃ B, B = (numB n).map b8 := ⟨_, rfl⟩
    have hBl : B.length = blen n := by rw [hB, List.length_map, numB, be_length]
    have hbl := blen_le (n := n) (by unfold M256; omega)
    have hfrom : ∀ (Γ : Ctx) (d' : Nat) (k : List PR → Prop) (R : Prop), Γ = ctx Try.prog d' → k [.a [.r 4 w]] → Γ.g 48 [.s (.v (.int .u64 (ar.cv .u64 x)))] k ∨ R := fun Γ d' k R hΓ hk => call_by hΓ refFrom_sound ⟨n, by rw [cvU64 har (by omega), hx], by omega, by unfold pw; rw [← hw]; exact hk⟩
    have hbytes : ∀ (Γ : Ctx) (d' : Nat) (k : List PR → Prop) (R : Prop), Γ = ctx Try.prog d' → k [.s (.sl B [])] → Γ.g 47 [.a [.r 4 w]] k ∨ R := fun Γ d' k R hΓ hk => call_by hΓ refBytes_sound ⟨n, by unfold pw; rw [hw], by unfold M256; omega, by rw [← hB]; exact hk⟩
    have hfirst : ar.cv .u8 (ar.ib .add .i64 (ar.ib .add .i64 f 55) (ar.len B)) = (f + 55 + blen n) % 256 := by
      have e1 : ar.ib .add .i64 f 55 = f + 55 := iAdd har (by omega)
      rw [lenIs har, hBl, cvU8 har, e1, iAdd har (by omega)]
    have hres : ar.app [b8 (ar.cv .u8 (ar.ib .add .i64 (ar.ib .add .i64 f 55) (ar.len B)))] B = ((f + 55 + blen n) % 256 :: be n (blen n)).map b8 := by
      rw [appIs har, hfirst, List.map_cons, hB]; rfl
    have s1 : (1 + B.length) * 1 ≤ 140737488355328 ∧ ∀ y ∈ B, rlen y = 1 := ⟨by rw [hBl]; omega, by rw [hB]; exact b8_all _⟩
    rw [← hres] at hk
    conv => cbv
    refine hfrom _ _ _ _ hΓ ?_
    conv => cbv
    refine hbytes _ _ _ _ hΓ ?_
    conv => cbv
    exact ⟨fun _ => s1, hk⟩

theorem oddT_sound : Sound Try.prog 79 fun args k => ∃ D : List (List PS), args = [.a (rtx D)] ∧ k [.s (.v (.bool false))] := by
  refine Sound.of_body tt_ok ent_ok Try.func79 rfl ?_
  rintro ar har Γ hΓ args k ⟨D, hargs, hk⟩
  have e : ar.cb .gtr (ar.len []) 0 = false := by rw [har]; rfl
  rw [← e] at hk
  unfold rtx at hargs
  subst hargs
  conv => cbv
  refine onF rfl ?_
  conv => cbv
  exact hk

theorem oddL_sound : Sound Try.prog 79 fun args k => ∃ I : List (List PS), args = [.a (rls I)] ∧ k [.s (.v (.bool false))] := by
  refine Sound.of_body tt_ok ent_ok Try.func79 rfl ?_
  rintro ar har Γ hΓ args k ⟨D, hargs, hk⟩
  have e : ar.cb .gtr (ar.len []) 0 = false := by rw [har]; rfl
  rw [← e] at hk
  unfold rls at hargs
  subst hargs
  conv => cbv
  refine onT rfl ?_
  conv => cbv
  exact hk

theorem oddlyT_sound : Sound Try.prog 73 fun args k => ∃ D : List (List PS), args = [.a (rtx D)] ∧ k [.s (.v (.bool false))] := by
  refine Sound.of_body tt_ok ent_ok Try.func73 rfl ?_
  rintro ar har Γ hΓ args k ⟨D, hargs, hk⟩
  have c1 : ∀ (Γ : Ctx) (d' : Nat) (k : List PR → Prop) (R : Prop), Γ = ctx Try.prog d' → k [.s (.v (.bool false))] → Γ.g 79 [.a (rtx D)] k ∨ R := fun Γ d' k R hΓ hk => call_by hΓ oddT_sound ⟨D, rfl, hk⟩
  unfold rtx at hargs c1
  have e : ar.cb .lss 0 (ar.len []) = false := by rw [har]; rfl
  subst hargs
  conv => cbv
  refine c1 _ _ _ _ hΓ ?_
  conv => cbv
  refine onF rfl ?_
  conv => cbv
  refine .inl ⟨1, ?_⟩
  conv => cbv
  refine onF e ?_
  conv => cbv
  exact hk

theorem oddlyL_sound : Sound Try.prog 73 fun args k => ∃ ts : List (List Int), args = [.a (It.lst (ts.map It.txt)).row] ∧ ts.length ≤ 1000 ∧ k [.s (.v (.bool false))] := by
  refine Sound.of_body tt_ok ent_ok Try.func73 rfl ?_
  rintro ar har Γ hΓ args k ⟨ts, hargs, hl, hk⟩
  obtain ⟨I, hI⟩ : ∃ I, I = rowsOf (ts.map It.txt) := ⟨_, rfl⟩
  have hIl : ar.len I = (ts.length : Int) := by rw [lenIs har, hI, rowsOf_length, List.length_map]
  have hrow : (It.lst (ts.map It.txt)).row = rls I := by rw [hI]; rfl
  have c1 : ∀ (Γ : Ctx) (d' : Nat) (k : List PR → Prop) (R : Prop), Γ = ctx Try.prog d' → k [.s (.v (.bool false))] → Γ.g 79 [.a (rls I)] k ∨ R := fun Γ d' k R hΓ hk => call_by hΓ oddL_sound ⟨I, rfl, hk⟩
  have c2 : ∀ (D : List (List PS)) (Γ : Ctx) (d' : Nat) (k : List PR → Prop) (R : Prop), Γ = ctx Try.prog d' → k [.s (.v (.bool false))] → Γ.g 73 [.a (rtx D)] k ∨ R := fun D Γ d' k R hΓ hk => call_by hΓ oddlyT_sound ⟨D, rfl, hk⟩
  rw [hrow] at hargs
  unfold rls at hargs c1
  unfold rtx at c2
  subst hargs
  conv => cbv
  refine c1 _ _ _ _ hΓ ?_
  conv => cbv
  refine onF rfl ?_
  conv => cbv
  refine .inr ⟨{ q : Nat × Int // q.1 ≤ ts.length ∧ q.2 = q.1 },
    fun q => ⟨mk 19 [(1, .s (.ptr 0 0)), (2, .s (.bl false)), (3, pint q.1.2)], [.box [.c (.p (.v (.bool true))), .c (.p (.sl [] [])), .c (.p (.sl I []))]]⟩,
    fun q => ts.length - q.1.1, [], _, ⟨(0, 0), Nat.zero_le _, rfl⟩, rfl, ?_, ?_⟩
  · conv => cbv
    simp
  rintro ⟨⟨p, pi⟩, hq⟩
  have hp : p ≤ ts.length := hq.1
  have hpi : pi = (p : Int) := hq.2
  dsimp only
  conv => cbv
  refine ⟨fun h => ?_, fun h => ?_⟩
  · have g' := cLt har (b := ar.len I) h
    have hlt : p < ts.length := by omega
    obtain ⟨d, hd'⟩ : ∃ t, ts[p]? = some t := ⟨_, List.getElem?_eq_getElem hlt⟩
    obtain ⟨D, hD⟩ : ∃ D, D = d.map b8 := ⟨_, rfl⟩
    have rx : I[pi.toNat]? = some [.c (.v (.bool false)), .c (.sl D []), .c (.sl [] [])] := by
      rw [hI, hpi, Int.toNat_natCast, rowsOf_get (x := It.txt d) (by rw [List.getElem?_map, hd']; rfl), hD]; rfl
    conv => cbv
    refine ⟨_, by omega, rx, rfl, ?_⟩
    conv => cbv
    refine c2 _ _ _ _ _ hΓ ?_
    conv => cbv
    refine onF rfl ?_
    conv => cbv
    refine ⟨⟨(p + 1, ar.ib .add .i64 pi 1), hlt, iSucc har hpi (by omega)⟩, ?_, ?_⟩
    · dsimp only
      conv => cbv
      simp
    · show ts.length - (p + 1) < ts.length - p
      omega
  conv => cbv
  exact hk

theorem depthT_sound : Sound Try.prog 74 fun args k => ∃ D : List (List PS), args = [.a (rtx D)] ∧ k [.s (.v (.int .i64 0))] := by
  refine Sound.of_body tt_ok ent_ok Try.func74 rfl ?_
  rintro ar har Γ hΓ args k ⟨D, hargs, hk⟩
  have n2 : ar.nb false = true := by rw [har]; rfl
  unfold rtx at hargs
  subst hargs
  conv => cbv
  refine onT n2 ?_
  conv => cbv
  exact hk

theorem depthL_sound : Sound Try.prog 74 fun args k => ∃ ts : List (List Int), args = [.a (It.lst (ts.map It.txt)).row] ∧ ts.length ≤ 1000 ∧ k [.s (.v (.int .i64 1))] := by
  refine Sound.of_body tt_ok ent_ok Try.func74 rfl ?_
  rintro ar har Γ hΓ args k ⟨ts, hargs, hl, hk⟩
  obtain ⟨I, hI⟩ : ∃ I, I = rowsOf (ts.map It.txt) := ⟨_, rfl⟩
  have hIl : ar.len I = (ts.length : Int) := by rw [lenIs har, hI, rowsOf_length, List.length_map]
  have hrow : (It.lst (ts.map It.txt)).row = rls I := by rw [hI]; rfl
  have c2 : ∀ (D : List (List PS)) (Γ : Ctx) (d' : Nat) (k : List PR → Prop) (R : Prop), Γ = ctx Try.prog d' → k [.s (.v (.int .i64 0))] → Γ.g 74 [.a (rtx D)] k ∨ R := fun D Γ d' k R hΓ hk => call_by hΓ depthT_sound ⟨D, rfl, hk⟩
  have n1 : ar.nb true = false := by rw [har]; rfl
  rw [hrow] at hargs
  unfold rls at hargs
  unfold rtx at c2
  subst hargs
  conv => cbv
  refine onF n1 ?_
  conv => cbv
  refine .inr ⟨{ q : Nat × Int × Int // q.1 ≤ ts.length ∧ q.2.1 = q.1 ∧ q.2.2 = 0 },
    fun q => ⟨mk 25 [(1, .s (.ptr 0 0)), (2, .s (.lit .i64 0)), (3, pint q.1.2.2), (4, pint q.1.2.1)], [.box [.c (.p (.v (.bool true))), .c (.p (.sl [] [])), .c (.p (.sl I []))]]⟩,
    fun q => ts.length - q.1.1, [], _, ⟨(0, 0, 0), Nat.zero_le _, rfl, rfl⟩, rfl, ?_, ?_⟩
  · conv => cbv
    simp
  rintro ⟨⟨p, pi, m⟩, hq⟩
  have hp : p ≤ ts.length := hq.1
  have hpi : pi = (p : Int) := hq.2.1
  have hm : m = 0 := hq.2.2
  dsimp only
  conv => cbv
  refine ⟨fun h => ?_, fun h => ?_⟩
  · have g' := cLt har (b := ar.len I) h
    have hlt : p < ts.length := by omega
    obtain ⟨d, hd'⟩ : ∃ t, ts[p]? = some t := ⟨_, List.getElem?_eq_getElem hlt⟩
    obtain ⟨D, hD⟩ : ∃ D, D = d.map b8 := ⟨_, rfl⟩
    have rx : I[pi.toNat]? = some [.c (.v (.bool false)), .c (.sl D []), .c (.sl [] [])] := by
      rw [hI, hpi, Int.toNat_natCast, rowsOf_get (x := It.txt d) (by rw [List.getElem?_map, hd']; rfl), hD]; rfl
    conv => cbv
    refine ⟨_, by omega, rx, rfl, ?_⟩
    conv => cbv
    refine c2 _ _ _ _ _ hΓ ?_
    conv => cbv
    obtain ⟨mx, hmx⟩ : ∃ mx, mx = max m 0 := ⟨_, rfl⟩
    refine ⟨max m 0, fun _ => rfl, ?_⟩
    rw [← hmx]
    conv => cbv
    refine ⟨⟨(p + 1, ar.ib .add .i64 pi 1, mx), hlt, iSucc har hpi (by omega), by show mx = 0; omega⟩, ?_, ?_⟩
    · dsimp only
      conv => cbv
      simp
    · show ts.length - (p + 1) < ts.length - p
      omega
  have hk : k [.s (.v (.int .i64 (ar.ib .add .i64 1 m)))] := by rw [hm, iAdd har (by omega)]; exact hk
  conv => cbv
  exact hk
end Go.Eng
namespace Go.Eng
open Go Go.Proofs
set_option maxRecDepth 100000
set_option maxHeartbeats 16000000
set_option linter.unusedVariables false

theorem hd_lens (f g : Int) (n : Nat) : (hd f n).length = (hd g n).length := by
  unfold hd; split <;> simp
theorem encT_one {b : Int} (h : ¬ 128 ≤ b) : encT [b] = [b] := by rw [encT, if_neg]; simp; omega
theorem encT_head {d : List Int} (h : d.length ≠ 1 ∨ 128 ≤ d.getD 0 0) : encT d = hd 128 d.length ++ d := by rw [encT, if_pos h]

theorem sizeT_sound : Sound Try.prog 59 fun args k => ∃ d : List Int, args = [.a (It.txt d).row] ∧ d.length ≤ 2 ^ 20 ∧ k [.s (.v (.int .i64 ((encT d).length : Nat)))] := by
  refine Sound.of_body tt_ok ent_ok Try.func59 rfl ?_
  rintro ar har Γ hΓ args k ⟨d, hargs, hl, hk⟩
  obtain ⟨D, hD⟩ : ∃ D, D = d.map b8 := ⟨_, rfl⟩
  have hrow : (It.txt d).row = rtx D := by rw [hD]; rfl
  have hDl : ar.len D = (d.length : Int) := by rw [lenIs har, hD, List.length_map]
  have n2 : ar.nb false = true := by rw [har]; rfl
  have e : ar.cb .lss 0 (ar.len []) = false := by rw [har]; rfl
  obtain ⟨H, hH⟩ : ∃ H, H = (hd 128 d.length).map b8 := ⟨_, rfl⟩
  have hhl := hd_len (f := 128) (n := d.length) (by omega)
  have hHl : ar.len H = ((hd 128 d.length).length : Int) := by rw [lenIs har, hH, List.length_map]
  have callH : ∀ (Γ : Ctx) (d' : Nat) (k : List PR → Prop) (R : Prop), Γ = ctx Try.prog d' → k [.s (.sl H [])] → Γ.g 75 [.s (.v (.int .i64 (ar.len D))), .s (.v (.int .i64 128))] k ∨ R := fun Γ d' k R hΓ hk => call_by hΓ before_sound ⟨d.length, 128, by rw [hDl], by omega, by omega, by omega, by rw [← hH]; exact hk⟩
  have long : (d.length ≠ 1 ∨ 128 ≤ d.getD 0 0) → k [.s (.v (.int .i64 (ar.ib .add .i64 (ar.len H) (ar.len D))))] := fun h => by
    rw [encT_head h] at hk
    rw [hHl, hDl, iAdd har (by omega)]
    rw [List.length_append] at hk
    exact hk
  rw [hrow] at hargs
  unfold rtx at hargs
  subst hargs
  conv => cbv
  refine onT n2 ?_
  conv => cbv
  refine ⟨fun h => ?_, fun h => ?_⟩
  · have g := cEq har (a := ar.len D) (b := 1) h
    obtain ⟨b, hdb⟩ : ∃ b, d = [b] := by
      match d, (show d.length = 1 by omega) with
      | [b], _ => exact ⟨b, rfl⟩
    have hDb : D = [[.c (.v (.int .u8 b))]] := by rw [hD, hdb]; rfl
    have hD0 : D[(0 : Int).toNat]? = some [.c (.v (.int .u8 b))] := by rw [hDb]; rfl
    conv => cbv
    refine ⟨_, by omega, hD0, rfl, ?_⟩
    conv => cbv
    refine ⟨fun h => ?_, fun h => ?_⟩
    · have g2 := cLt har (a := b) (b := 128) h
      rw [hdb, encT_one (by omega)] at hk
      conv => cbv
      exact hk
    · have g2 := cNlt har (a := b) (b := 128) h
      have hk := long (by right; rw [hdb]; exact g2)
      conv => cbv
      refine .inl ⟨1, ?_⟩
      conv => cbv
      refine onF e ?_
      conv => cbv
      refine callH _ _ _ _ hΓ ?_
      conv => cbv
      exact hk
  · have g := cNeq har (a := ar.len D) (b := 1) h
    have hk := long (by left; omega)
    conv => cbv
    refine .inl ⟨1, ?_⟩
    conv => cbv
    refine onF e ?_
    conv => cbv
    refine callH _ _ _ _ hΓ ?_
    conv => cbv
    exact hk
end Go.Eng
namespace Go.Eng
open Go Go.Proofs
set_option maxRecDepth 100000
set_option maxHeartbeats 16000000
set_option linter.unusedVariables false

theorem sizeL_sound : Sound Try.prog 59 fun args k => ∃ ts : List (List Int), args = [.a (It.lst (ts.map It.txt)).row] ∧ ts.length ≤ 1000 ∧ (encB ts).length ≤ 2 ^ 20 ∧ k [.s (.v (.int .i64 ((encL ts).length : Nat)))] := by
  refine Sound.of_body tt_ok ent_ok Try.func59 rfl ?_
  rintro ar har Γ hΓ args k ⟨ts, hargs, hl, hj, hk⟩
  obtain ⟨I, hI⟩ : ∃ I, I = rowsOf (ts.map It.txt) := ⟨_, rfl⟩
  have hIl : ar.len I = (ts.length : Int) := by rw [lenIs har, hI, rowsOf_length, List.length_map]
  have hrow : (It.lst (ts.map It.txt)).row = rls I := by rw [hI]; rfl
  have n1 : ar.nb true = false := by rw [har]; rfl
  have n2 : ar.nb false = true := by rw [har]; rfl
  obtain ⟨H, hH⟩ : ∃ H, H = (hd 128 (encB ts).length).map b8 := ⟨_, rfl⟩
  have hhl := hd_len (f := 128) (n := (encB ts).length) (by omega)
  have hHl : ar.len H = ((hd 128 (encB ts).length).length : Int) := by rw [lenIs har, hH, List.length_map]
  have hl0 : ar.len [] = 0 := by rw [har]; rfl
  rw [hrow] at hargs
  unfold rls at hargs
  subst hargs
  conv => cbv
  refine onF n1 ?_
  conv => cbv
  refine .inr ⟨{ q : Nat × Int × Int // q.1 ≤ ts.length ∧ q.2.1 = q.1 ∧ q.2.2 = ((encB (ts.take q.1)).length : Int) },
    fun q => ⟨mk 42 [(1, .s (.ptr 0 0)), (2, .s (.lit .i64 0)), (3, pint q.1.2.2), (4, pint q.1.2.1)], [.box [.c (.p (.v (.bool true))), .c (.p (.sl [] [])), .c (.p (.sl I []))]]⟩,
    fun q => ts.length - q.1.1, [], _, ⟨(0, 0, ar.len []), Nat.zero_le _, rfl, hl0⟩, rfl, ?_, ?_⟩
  · conv => cbv
    simp
  rintro ⟨⟨p, pi, m⟩, hq⟩
  have hp : p ≤ ts.length := hq.1
  have hpi : pi = (p : Int) := hq.2.1
  have hm : m = ((encB (ts.take p)).length : Int) := hq.2.2
  have hzle := encB_le ts p
  dsimp only
  conv => cbv
  refine ⟨fun h => ?_, fun h => ?_⟩
  · have g' := cLt har (b := ar.len I) h
    have hlt : p < ts.length := by omega
    obtain ⟨d, hd'⟩ : ∃ t, ts[p]? = some t := ⟨_, List.getElem?_eq_getElem hlt⟩
    obtain ⟨D, hD⟩ : ∃ D, D = d.map b8 := ⟨_, rfl⟩
    have rx : I[pi.toNat]? = some [.c (.v (.bool false)), .c (.sl D []), .c (.sl [] [])] := by
      rw [hI, hpi, Int.toNat_natCast, rowsOf_get (x := It.txt d) (by rw [List.getElem?_map, hd']; rfl), hD]; rfl
    have hdt := encB_take hd'
    have hdle := encB_le ts (p + 1)
    have hdl : d.length ≤ (encT d).length := by unfold encT; split <;> simp
    rw [hdt, List.length_append] at hdle
    obtain ⟨z, hz⟩ : ∃ z : Int, z = ((encT d).length : Nat) := ⟨_, rfl⟩
    have c2 : ∀ (Γ : Ctx) (d' : Nat) (k : List PR → Prop) (R : Prop), Γ = ctx Try.prog d' → k [.s (.v (.int .i64 z))] → Γ.g 59 [.a (rtx D)] k ∨ R := fun Γ d' k R hΓ hk => call_by hΓ sizeT_sound ⟨d, by rw [hD]; rfl, by omega, by rw [← hz]; exact hk⟩
    have hnx : ar.ib .add .i64 m z = ((encB (ts.take (p + 1))).length : Int) := by
      rw [iAdd har (by omega), hdt, List.length_append, hm, hz, Int.natCast_add]
    unfold rtx at c2
    conv => cbv
    refine ⟨_, by omega, rx, rfl, ?_⟩
    conv => cbv
    refine c2 _ _ _ _ hΓ ?_
    conv => cbv
    refine ⟨⟨(p + 1, ar.ib .add .i64 pi 1, ar.ib .add .i64 m z), hlt, iSucc har hpi (by omega), hnx⟩, ?_, ?_⟩
    · dsimp only
      conv => cbv
      simp
    · show ts.length - (p + 1) < ts.length - p
      omega
  have g' := cNlt har (b := ar.len I) h
  have hpe : p = ts.length := by omega
  rw [hpe, List.take_length] at hm
  have callH : ∀ (Γ : Ctx) (d' : Nat) (k : List PR → Prop) (R : Prop), Γ = ctx Try.prog d' → k [.s (.sl H [])] → Γ.g 75 [.s (.v (.int .i64 m)), .s (.v (.int .i64 128))] k ∨ R := fun Γ d' k R hΓ hk => call_by hΓ before_sound ⟨(encB ts).length, 128, by rw [hm], by omega, by omega, by omega, by rw [← hH]; exact hk⟩
  have hk : k [.s (.v (.int .i64 (ar.ib .add .i64 (ar.len H) m)))] := by
    rw [hHl, hm, iAdd har (by omega)]
    rw [encL, List.length_append, hd_lens 192 128] at hk
    exact hk
  conv => cbv
  refine callH _ _ _ _ hΓ ?_
  conv => cbv
  exact hk

theorem refCheck_sound : Sound Try.prog 58 fun args k => ∃ ts : List (List Int), args = [.a (It.lst (ts.map It.txt)).row] ∧ ts.length ≤ 1000 ∧ (encB ts).length ≤ 2 ^ 20 ∧ k [.s (.v (.int .i64 0))] := by
  refine Sound.of_body tt_ok ent_ok Try.func58 rfl ?_
  rintro ar har Γ hΓ args k ⟨ts, hargs, hl, hj, hk⟩
  obtain ⟨I, hI⟩ : ∃ I, I = rowsOf (ts.map It.txt) := ⟨_, rfl⟩
  have hIl : ar.len I = (ts.length : Int) := by rw [lenIs har, hI, rowsOf_length, List.length_map]
  have hrow : (It.lst (ts.map It.txt)).row = rls I := by rw [hI]; rfl
  have n1 : ar.nb true = false := by rw [har]; rfl
  have n2 : ar.nb false = true := by rw [har]; rfl
  obtain ⟨z, hz⟩ : ∃ z : Int, z = ((encL ts).length : Nat) := ⟨_, rfl⟩
  have hhl := hd_len (f := 192) (n := (encB ts).length) (by omega)
  have hzl : z ≤ 16777216 := by rw [hz, encL, List.length_append]; omega
  have c1 : ∀ (Γ : Ctx) (d' : Nat) (k : List PR → Prop) (R : Prop), Γ = ctx Try.prog d' → k [.s (.v (.bool false))] → Γ.g 73 [.a (rls I)] k ∨ R := fun Γ d' k R hΓ hk => call_by hΓ oddlyL_sound ⟨ts, by rw [hrow], hl, hk⟩
  have c2 : ∀ (Γ : Ctx) (d' : Nat) (k : List PR → Prop) (R : Prop), Γ = ctx Try.prog d' → k [.s (.v (.int .i64 1))] → Γ.g 74 [.a (rls I)] k ∨ R := fun Γ d' k R hΓ hk => call_by hΓ depthL_sound ⟨ts, by rw [hrow], hl, hk⟩
  have c3 : ∀ (Γ : Ctx) (d' : Nat) (k : List PR → Prop) (R : Prop), Γ = ctx Try.prog d' → k [.s (.v (.int .i64 z))] → Γ.g 59 [.a (rls I)] k ∨ R := fun Γ d' k R hΓ hk => call_by hΓ sizeL_sound ⟨ts, by rw [hrow], hl, hj, by rw [← hz]; exact hk⟩
  have e1 : ar.cb .gtr 1 1024 = false := dNgt har (by omega)
  have e2 : ar.cb .gtr z 16777216 = false := dNgt har hzl
  rw [hrow] at hargs
  unfold rls at hargs c1 c2 c3
  subst hargs
  conv => cbv
  refine c1 _ _ _ _ hΓ ?_
  conv => cbv
  refine onF rfl ?_
  conv => cbv
  refine c2 _ _ _ _ hΓ ?_
  conv => cbv
  refine onF e1 ?_
  conv => cbv
  refine c3 _ _ _ _ hΓ ?_
  conv => cbv
  refine onF e2 ?_
  conv => cbv
  exact hk

end Go.Eng
namespace Go.Eng
open Go Go.Proofs
set_option maxRecDepth 100000
set_option maxHeartbeats 16000000
set_option linter.unusedVariables false

theorem refOdd_sound : Sound Try.prog 79 fun args k => ∃ it : It, args = [.a it.row] ∧ k [.s (.v (.bool it.odd))] := by
  refine Sound.of_body tt_ok ent_ok Try.func79 rfl ?_
  rintro ar har Γ hΓ args k ⟨⟨l, d, sd, its, ss⟩, hargs, hk⟩
  obtain ⟨D, hD⟩ : ∃ D, D = d.map b8 := ⟨_, rfl⟩
  obtain ⟨I, hI⟩ : ∃ I, I = rowsOf its := ⟨_, rfl⟩
  have hrow : (It.mk l d sd its ss).row = [.c (.v (.bool l)), .c (.sl D sd), .c (.sl I ss)] := by rw [hD, hI]; rfl
  have hDl : ar.len D = (d.length : Int) := by rw [lenIs har, hD, List.length_map]
  have hIl : ar.len I = (its.length : Int) := by rw [lenIs har, hI, rowsOf_length]
  have e1 : ar.cb .gtr (ar.len D) 0 = decide (0 < d.length) := by rw [hDl, cIs har]; show decide _ = decide _; rw [decide_eq_decide]; omega
  have e2 : ar.cb .gtr (ar.len I) 0 = decide (0 < its.length) := by rw [hIl, cIs har]; show decide _ = decide _; rw [decide_eq_decide]; omega
  rw [show (It.mk l d sd its ss).odd = if l then decide (0 < d.length) else decide (0 < its.length) from rfl, ← e1, ← e2] at hk
  rw [hrow] at hargs
  subst hargs
  cases l with
  | true =>
    conv => cbv
    refine onT rfl ?_
    conv => cbv
    exact hk
  | false =>
    conv => cbv
    refine onF rfl ?_
    conv => cbv
    exact hk

def OddlyC (B : Nat) (args : List PR) (k : List PR → Prop) : Prop := ∃ it : It, args = [.a it.row] ∧ it.bulk ≤ B ∧ B ≤ 2 ^ 40 ∧ k [.s (.v (.bool (!okS it)))]
theorem okS_odd : ∀ it : It, it.odd = true → okS it = false
  | .mk true d sd its ss, h => by simp only [It.odd, if_true, decide_eq_true_eq] at h; simp only [okS]; rw [decide_eq_false (by omega)]; rfl
  | .mk false d sd its ss, h => by simp only [It.odd] at h; simp at h; simp only [okS]; rw [decide_eq_false (by omega)]
theorem okS_nodd : ∀ it : It, it.odd = false → okS it = okSs it.its
  | .mk true d sd its ss, h => by simp only [It.odd, if_true, decide_eq_false_iff_not] at h; simp only [okS, It.its]; rw [decide_eq_true (by omega)]; rfl
  | .mk false d sd its ss, h => by
    simp only [It.odd] at h; simp at h; simp only [okS, It.its, h]; rfl
theorem okSs_snoc {its : List It} {p : Nat} {x : It} (h : its[p]? = some x) : okSs (its.take (p + 1)) = (okSs (its.take p) && okS x) := by
  rw [take_succ_get h, okSs_append]; simp [okSs]

theorem refOddly_step (B : Nat) (ih : Sound Try.prog 73 (OddlyC B)) : Sound Try.prog 73 (OddlyC (B + 1)) := by
  refine Sound.of_body tt_ok ent_ok Try.func73 rfl ?_
  rintro ar har Γ hΓ args k ⟨⟨l, d, sd, its, ss⟩, hargs, hb, hB, hk⟩
  obtain ⟨D, hD⟩ : ∃ D, D = d.map b8 := ⟨_, rfl⟩
  obtain ⟨I, hI⟩ : ∃ I, I = rowsOf its := ⟨_, rfl⟩
  have hrow : (It.mk l d sd its ss).row = [.c (.v (.bool l)), .c (.sl D sd), .c (.sl I ss)] := by rw [hD, hI]; rfl
  have hDl : ar.len D = (d.length : Int) := by rw [lenIs har, hD, List.length_map]
  have hIl : ar.len I = (its.length : Int) := by rw [lenIs har, hI, rowsOf_length]
  have n1 : ar.nb true = false := by rw [har]; rfl
  have n2 : ar.nb false = true := by rw [har]; rfl
  simp only [It.bulk] at hb
  have hil := bulks_len its
  obtain ⟨o, ho⟩ : ∃ o, o = (It.mk l d sd its ss).odd := ⟨_, rfl⟩
  have hodd : ∀ (Γ : Ctx) (d' : Nat) (k : List PR → Prop) (R : Prop), Γ = ctx Try.prog d' → k [.s (.v (.bool o))] → Γ.g 79 [.a [.c (.v (.bool l)), .c (.sl D sd), .c (.sl I ss)]] k ∨ R := fun Γ d' k R hΓ hk => call_by hΓ refOdd_sound ⟨.mk l d sd its ss, by rw [hrow], by rw [← ho]; exact hk⟩
  rw [hrow] at hargs
  subst hargs
  conv => cbv
  refine hodd _ _ _ _ hΓ ?_
  conv => cbv
  refine ⟨fun h => ?_, fun h => ?_⟩
  · rw [okS_odd _ (ho.symm.trans h)] at hk
    conv => cbv
    exact hk
  rw [okS_nodd _ (ho.symm.trans h)] at hk
  conv => cbv
  refine .inr ⟨{ q : Nat × Int // q.1 ≤ its.length ∧ q.2 = q.1 ∧ okSs (its.take q.1) = true },
    fun q => ⟨mk 19 [(1, .s (.ptr 0 0)), (2, .s (.bl false)), (3, pint q.1.2)], [.box [.c (.p (.v (.bool l))), .c (.p (.sl D sd)), .c (.p (.sl I ss))]]⟩,
    fun q => its.length - q.1.1, [], _, ⟨(0, 0), Nat.zero_le _, rfl, rfl⟩, rfl, ?_, ?_⟩
  · conv => cbv
    simp
  rintro ⟨⟨p, pi⟩, hq⟩
  have hp : p ≤ its.length := hq.1
  have hpi : pi = (p : Int) := hq.2.1
  have hoks : okSs (its.take p) = true := hq.2.2
  dsimp only
  conv => cbv
  refine ⟨fun h => ?_, fun h => ?_⟩
  · have g' := cLt har (b := ar.len I) h
    have hlt : p < its.length := by omega
    obtain ⟨x, hx⟩ : ∃ x, its[p]? = some x := ⟨_, List.getElem?_eq_getElem hlt⟩
    have hxb := bulk_get hx
    obtain ⟨l', d', sd', its', ss'⟩ := x
    obtain ⟨D', hD'⟩ : ∃ D', D' = d'.map b8 := ⟨_, rfl⟩
    obtain ⟨I', hI'⟩ : ∃ I', I' = rowsOf its' := ⟨_, rfl⟩
    have hrow' : (It.mk l' d' sd' its' ss').row = [.c (.v (.bool l')), .c (.sl D' sd'), .c (.sl I' ss')] := by rw [hD', hI']; rfl
    have rx : I[pi.toNat]? = some [.c (.v (.bool l')), .c (.sl D' sd'), .c (.sl I' ss')] := by rw [hI, hpi, Int.toNat_natCast, rowsOf_get hx, hrow']
    obtain ⟨b, hbv⟩ : ∃ b, b = !okS (It.mk l' d' sd' its' ss') := ⟨_, rfl⟩
    have c2 : ∀ (Γ : Ctx) (d'' : Nat) (k : List PR → Prop) (R : Prop), Γ = ctx Try.prog d'' → k [.s (.v (.bool b))] → Γ.g 73 [.a [.c (.v (.bool l')), .c (.sl D' sd'), .c (.sl I' ss')]] k ∨ R := fun Γ d'' k R hΓ hk => call_by hΓ ih ⟨_, by rw [hrow'], by omega, by omega, by rw [← hbv]; exact hk⟩
    have hsn := okSs_snoc hx
    conv => cbv
    refine ⟨_, by omega, rx, rfl, ?_⟩
    conv => cbv
    refine c2 _ _ _ _ hΓ ?_
    conv => cbv
    refine ⟨fun h => ?_, fun h => ?_⟩
    · have hx0 : okS (It.mk l' d' sd' its' ss') = false := by rw [h] at hbv; simpa using hbv.symm
      have : okSs (It.mk l d sd its ss).its = false := okSs_get hx hx0
      rw [this] at hk
      conv => cbv
      exact hk
    · have hx0 : okS (It.mk l' d' sd' its' ss') = true := by rw [h] at hbv; simpa using hbv.symm
      conv => cbv
      refine ⟨⟨(p + 1, ar.ib .add .i64 pi 1), hlt, iSucc har hpi (by omega), by show okSs (its.take (p + 1)) = true; rw [hsn, hoks, hx0]; rfl⟩, ?_, ?_⟩
      · dsimp only
        conv => cbv
        simp
      · show its.length - (p + 1) < its.length - p
        omega
  have g' := cNlt har (b := ar.len I) h
  have hpe : p = its.length := by omega
  rw [hpe, List.take_length] at hoks
  have hk : k [.s (.v (.bool false))] := by
    rw [show okSs (It.mk l d sd its ss).its = true from hoks] at hk; exact hk
  conv => cbv
  exact hk
theorem refOddly_sound : ∀ B, Sound Try.prog 73 (OddlyC B)
  | 0 => fun args k m W vs _ _ _ ⟨it, _, hb, _⟩ => by have := bulk_pos it; omega
  | B + 1 => refOddly_step B (refOddly_sound B)

def DepthC (B : Nat) (args : List PR) (k : List PR → Prop) : Prop := ∃ it : It, args = [.a it.row] ∧ it.bulk ≤ B ∧ B ≤ 2 ^ 40 ∧ k [.s (.v (.int .i64 (dep it : Nat)))]
theorem deps_snoc {its : List It} {p : Nat} {x : It} (h : its[p]? = some x) : depths (its.take (p + 1)) = max (depths (its.take p)) (dep x) := by
  rw [take_succ_get h, deps_append]; simp [depths]
theorem refDepth_step (B : Nat) (ih : Sound Try.prog 74 (DepthC B)) : Sound Try.prog 74 (DepthC (B + 1)) := by
  refine Sound.of_body tt_ok ent_ok Try.func74 rfl ?_
  rintro ar har Γ hΓ args k ⟨⟨l, d, sd, its, ss⟩, hargs, hb, hB, hk⟩
  obtain ⟨D, hD⟩ : ∃ D, D = d.map b8 := ⟨_, rfl⟩
  obtain ⟨I, hI⟩ : ∃ I, I = rowsOf its := ⟨_, rfl⟩
  have hrow : (It.mk l d sd its ss).row = [.c (.v (.bool l)), .c (.sl D sd), .c (.sl I ss)] := by rw [hD, hI]; rfl
  have hDl : ar.len D = (d.length : Int) := by rw [lenIs har, hD, List.length_map]
  have hIl : ar.len I = (its.length : Int) := by rw [lenIs har, hI, rowsOf_length]
  have n1 : ar.nb true = false := by rw [har]; rfl
  have n2 : ar.nb false = true := by rw [har]; rfl
  simp only [It.bulk] at hb
  have hil := bulks_len its
  have hdl := deps_le its
  rw [hrow] at hargs
  subst hargs
  cases l with
  | false =>
    conv => cbv
    refine onT n2 ?_
    conv => cbv
    exact hk
  | true =>
  have hk : k [.s (.v (.int .i64 (depths its + 1 : Nat)))] := hk
  conv => cbv
  refine onF n1 ?_
  conv => cbv
  refine .inr ⟨{ q : Nat × Int × Int // q.1 ≤ its.length ∧ q.2.1 = q.1 ∧ q.2.2 = (depths (its.take q.1) : Nat) },
    fun q => ⟨mk 25 [(1, .s (.ptr 0 0)), (2, .s (.lit .i64 0)), (3, pint q.1.2.2), (4, pint q.1.2.1)], [.box [.c (.p (.v (.bool true))), .c (.p (.sl D sd)), .c (.p (.sl I ss))]]⟩,
    fun q => its.length - q.1.1, [], _, ⟨(0, 0, 0), Nat.zero_le _, rfl, rfl⟩, rfl, ?_, ?_⟩
  · conv => cbv
    simp
  rintro ⟨⟨p, pi, m⟩, hq⟩
  have hp : p ≤ its.length := hq.1
  have hpi : pi = (p : Int) := hq.2.1
  have hm : m = (depths (its.take p) : Nat) := hq.2.2
  dsimp only
  conv => cbv
  refine ⟨fun h => ?_, fun h => ?_⟩
  · have g' := cLt har (b := ar.len I) h
    have hlt : p < its.length := by omega
    obtain ⟨x, hx⟩ : ∃ x, its[p]? = some x := ⟨_, List.getElem?_eq_getElem hlt⟩
    have hxb := bulk_get hx
    obtain ⟨l', d', sd', its', ss'⟩ := x
    obtain ⟨D', hD'⟩ : ∃ D', D' = d'.map b8 := ⟨_, rfl⟩
    obtain ⟨I', hI'⟩ : ∃ I', I' = rowsOf its' := ⟨_, rfl⟩
    have hrow' : (It.mk l' d' sd' its' ss').row = [.c (.v (.bool l')), .c (.sl D' sd'), .c (.sl I' ss')] := by rw [hD', hI']; rfl
    have rx : I[pi.toNat]? = some [.c (.v (.bool l')), .c (.sl D' sd'), .c (.sl I' ss')] := by rw [hI, hpi, Int.toNat_natCast, rowsOf_get hx, hrow']
    obtain ⟨z, hz⟩ : ∃ z : Int, z = (dep (It.mk l' d' sd' its' ss') : Nat) := ⟨_, rfl⟩
    have c2 : ∀ (Γ : Ctx) (d'' : Nat) (k : List PR → Prop) (R : Prop), Γ = ctx Try.prog d'' → k [.s (.v (.int .i64 z))] → Γ.g 74 [.a [.c (.v (.bool l')), .c (.sl D' sd'), .c (.sl I' ss')]] k ∨ R := fun Γ d'' k R hΓ hk => call_by hΓ ih ⟨_, by rw [hrow'], by omega, by omega, by rw [← hz]; exact hk⟩
    have hsn := deps_snoc hx
    conv => cbv
    refine ⟨_, by omega, rx, rfl, ?_⟩
    conv => cbv
    refine c2 _ _ _ _ hΓ ?_
    conv => cbv
    obtain ⟨mx, hmx⟩ : ∃ mx, mx = max m z := ⟨_, rfl⟩
    refine ⟨max m z, fun _ => rfl, ?_⟩
    rw [← hmx]
    conv => cbv
    refine ⟨⟨(p + 1, ar.ib .add .i64 pi 1, mx), hlt, iSucc har hpi (by omega), by show mx = (depths (its.take (p + 1)) : Nat); rw [hsn]; omega⟩, ?_, ?_⟩
    · dsimp only
      conv => cbv
      simp
    · show its.length - (p + 1) < its.length - p
      omega
  have g' := cNlt har (b := ar.len I) h
  have hpe : p = its.length := by omega
  rw [hpe, List.take_length] at hm
  have hk : k [.s (.v (.int .i64 (ar.ib .add .i64 1 m)))] := by rw [hm, iAdd har (by omega), show (1 : Int) + (depths its : Nat) = ((depths its + 1 : Nat) : Int) by omega]; exact hk
  conv => cbv
  exact hk
theorem refDepth_sound : ∀ B, Sound Try.prog 74 (DepthC B)
  | 0 => fun args k m W vs _ _ _ ⟨it, _, hb, _⟩ => by have := bulk_pos it; omega
  | B + 1 => refDepth_step B (refDepth_sound B)
end Go.Eng
namespace Go.Eng
open Go Go.Proofs
set_option maxRecDepth 100000
set_option maxHeartbeats 16000000
set_option linter.unusedVariables false

mutual
theorem sz_enc : ∀ x : It, sz x = (enc x).length
  | .mk true d sd its ss => by simp only [sz, enc, List.length_append, szs_encs its]
  | .mk false d sd its ss => by
    simp only [sz, enc, encT]
    split
    · rename_i b
      by_cases h : b < 128
      · rw [if_pos h, if_neg (by simp; omega)]; rfl
      · rw [if_neg h, if_pos (by right; simp; omega)]; rfl
    · rename_i h
      rw [if_pos, List.length_append]
      left
      intro h1
      match d, h1 with
      | [b], _ => exact h b rfl
theorem szs_encs : ∀ xs : List It, szs xs = (encs xs).length
  | [] => rfl
  | x :: xs => by simp only [szs, encs, List.length_append, sz_enc x, szs_encs xs]
end
theorem szs_snoc {its : List It} {p : Nat} {x : It} (h : its[p]? = some x) : szs (its.take (p + 1)) = szs (its.take p) + sz x := by
  rw [take_succ_get h, szs_append]; simp [szs]
theorem okSs_mem {x : It} {p : Nat} {its : List It} (h : its[p]? = some x) (ho : okSs its = true) : okS x = true := by
  cases hx : okS x with
  | true => rfl
  | false => rw [okSs_get h hx] at ho; cases ho
def SizeRC (B : Nat) (args : List PR) (k : List PR → Prop) : Prop := ∃ it : It, args = [.a it.row] ∧ okS it = true ∧ it.bulk ≤ B ∧ B ≤ 2 ^ 40 ∧ k [.s (.v (.int .i64 (sz it : Nat)))]

theorem refSize_step (B : Nat) (ih : Sound Try.prog 59 (SizeRC B)) : Sound Try.prog 59 (SizeRC (B + 1)) := by
  refine Sound.of_body tt_ok ent_ok Try.func59 rfl ?_
  rintro ar har Γ hΓ args k ⟨⟨l, d, sd, its, ss⟩, hargs, hok, hb, hB, hk⟩
  obtain ⟨D, hD⟩ : ∃ D, D = d.map b8 := ⟨_, rfl⟩
  obtain ⟨I, hI⟩ : ∃ I, I = rowsOf its := ⟨_, rfl⟩
  have hrow : (It.mk l d sd its ss).row = [.c (.v (.bool l)), .c (.sl D sd), .c (.sl I ss)] := by rw [hD, hI]; rfl
  have hDl : ar.len D = (d.length : Int) := by rw [lenIs har, hD, List.length_map]
  have hIl : ar.len I = (its.length : Int) := by rw [lenIs har, hI, rowsOf_length]
  have n1 : ar.nb true = false := by rw [har]; rfl
  have n2 : ar.nb false = true := by rw [har]; rfl
  simp only [It.bulk] at hb
  have hil := bulks_len its
  have hsl := szs_le its (by omega)
  rw [hrow] at hargs
  subst hargs
  cases l with
  | false =>
    have h0 : its = [] := by simp only [okS, decide_eq_true_eq] at hok; exact List.eq_nil_of_length_eq_zero hok
    have e : ar.cb .lss 0 (ar.len I) = false := by rw [hIl, h0, har]; rfl
    obtain ⟨H, hH⟩ : ∃ H, H = (hd 128 d.length).map b8 := ⟨_, rfl⟩
    have hhl := hd_len (f := 128) (n := d.length) (by omega)
    have hHl : ar.len H = ((hd 128 d.length).length : Int) := by rw [lenIs har, hH, List.length_map]
    have callH : ∀ (Γ : Ctx) (d' : Nat) (k : List PR → Prop) (R : Prop), Γ = ctx Try.prog d' → k [.s (.sl H [])] → Γ.g 75 [.s (.v (.int .i64 (ar.len D))), .s (.v (.int .i64 128))] k ∨ R := fun Γ d' k R hΓ hk => call_by hΓ before_sound ⟨d.length, 128, by rw [hDl], by omega, by omega, by omega, by rw [← hH]; exact hk⟩
    rw [sz_enc, enc] at hk
    have long : (d.length ≠ 1 ∨ 128 ≤ d.getD 0 0) → k [.s (.v (.int .i64 (ar.ib .add .i64 (ar.len H) (ar.len D))))] := fun h => by
      rw [encT_head h] at hk
      rw [hHl, hDl, iAdd har (by omega)]
      rw [List.length_append] at hk
      exact hk
    conv => cbv
    refine onT n2 ?_
    conv => cbv
    refine ⟨fun h => ?_, fun h => ?_⟩
    · have g := cEq har (a := ar.len D) (b := 1) h
      obtain ⟨b, hdb⟩ : ∃ b, d = [b] := by
        match d, (show d.length = 1 by omega) with
        | [b], _ => exact ⟨b, rfl⟩
      have hDb : D = [[.c (.v (.int .u8 b))]] := by rw [hD, hdb]; rfl
      have hD0 : D[(0 : Int).toNat]? = some [.c (.v (.int .u8 b))] := by rw [hDb]; rfl
      conv => cbv
      refine ⟨_, by omega, hD0, rfl, ?_⟩
      conv => cbv
      refine ⟨fun h => ?_, fun h => ?_⟩
      · have g2 := cLt har (a := b) (b := 128) h
        rw [hdb, encT_one (by omega)] at hk
        conv => cbv
        exact hk
      · have g2 := cNlt har (a := b) (b := 128) h
        have hk := long (by right; rw [hdb]; exact g2)
        conv => cbv
        refine .inl ⟨1, ?_⟩
        conv => cbv
        refine onF e ?_
        conv => cbv
        refine callH _ _ _ _ hΓ ?_
        conv => cbv
        exact hk
    · have g := cNeq har (a := ar.len D) (b := 1) h
      have hk := long (by left; omega)
      conv => cbv
      refine .inl ⟨1, ?_⟩
      conv => cbv
      refine onF e ?_
      conv => cbv
      refine callH _ _ _ _ hΓ ?_
      conv => cbv
      exact hk
  | true =>
  have hok2 : decide (d.length = 0) = true ∧ okSs its = true := by simp only [okS, Bool.and_eq_true] at hok; exact hok
  have hd0 : d.length = 0 := of_decide_eq_true hok2.1
  have hl0 : ar.len D = 0 := by rw [hDl, hd0]; rfl
  obtain ⟨H, hH⟩ : ∃ H, H = (hd 128 (szs its)).map b8 := ⟨_, rfl⟩
  have hhl := hd_len (f := 128) (n := szs its) (by omega)
  have hHl : ar.len H = ((hd 128 (szs its)).length : Int) := by rw [lenIs har, hH, List.length_map]
  conv => cbv
  refine onF n1 ?_
  conv => cbv
  refine .inr ⟨{ q : Nat × Int × Int // q.1 ≤ its.length ∧ q.2.1 = q.1 ∧ q.2.2 = (szs (its.take q.1) : Nat) },
    fun q => ⟨mk 42 [(1, .s (.ptr 0 0)), (2, .s (.lit .i64 0)), (3, pint q.1.2.2), (4, pint q.1.2.1)], [.box [.c (.p (.v (.bool true))), .c (.p (.sl D sd)), .c (.p (.sl I ss))]]⟩,
    fun q => its.length - q.1.1, [], _, ⟨(0, 0, ar.len D), Nat.zero_le _, rfl, hl0⟩, rfl, ?_, ?_⟩
  · conv => cbv
    simp
  rintro ⟨⟨p, pi, m⟩, hq⟩
  have hp : p ≤ its.length := hq.1
  have hpi : pi = (p : Int) := hq.2.1
  have hm : m = (szs (its.take p) : Nat) := hq.2.2
  have hszt := szs_le (its.take p) (by have := bulks_take its p; omega)
  have hbt := bulks_take its p
  dsimp only
  conv => cbv
  refine ⟨fun h => ?_, fun h => ?_⟩
  · have g' := cLt har (b := ar.len I) h
    have hlt : p < its.length := by omega
    obtain ⟨x, hx⟩ : ∃ x, its[p]? = some x := ⟨_, List.getElem?_eq_getElem hlt⟩
    have hxb := bulk_get hx
    obtain ⟨l', d', sd', its', ss'⟩ := x
    obtain ⟨D', hD'⟩ : ∃ D', D' = d'.map b8 := ⟨_, rfl⟩
    obtain ⟨I', hI'⟩ : ∃ I', I' = rowsOf its' := ⟨_, rfl⟩
    have hrow' : (It.mk l' d' sd' its' ss').row = [.c (.v (.bool l')), .c (.sl D' sd'), .c (.sl I' ss')] := by rw [hD', hI']; rfl
    have rx : I[pi.toNat]? = some [.c (.v (.bool l')), .c (.sl D' sd'), .c (.sl I' ss')] := by rw [hI, hpi, Int.toNat_natCast, rowsOf_get hx, hrow']
    obtain ⟨z, hz⟩ : ∃ z : Int, z = (sz (It.mk l' d' sd' its' ss') : Nat) := ⟨_, rfl⟩
    have hzl := sz_le (It.mk l' d' sd' its' ss') (by omega)
    have c2 : ∀ (Γ : Ctx) (d'' : Nat) (k : List PR → Prop) (R : Prop), Γ = ctx Try.prog d'' → k [.s (.v (.int .i64 z))] → Γ.g 59 [.a [.c (.v (.bool l')), .c (.sl D' sd'), .c (.sl I' ss')]] k ∨ R := fun Γ d'' k R hΓ hk => call_by hΓ ih ⟨_, by rw [hrow'], okSs_mem hx hok2.2, by omega, by omega, by rw [← hz]; exact hk⟩
    have hsn := szs_snoc hx
    have hnx : ar.ib .add .i64 m z = (szs (its.take (p + 1)) : Nat) := by
      rw [iAdd har (by omega), hsn, hm, hz, Int.natCast_add]
    conv => cbv
    refine ⟨_, by omega, rx, rfl, ?_⟩
    conv => cbv
    refine c2 _ _ _ _ hΓ ?_
    conv => cbv
    refine ⟨⟨(p + 1, ar.ib .add .i64 pi 1, ar.ib .add .i64 m z), hlt, iSucc har hpi (by omega), hnx⟩, ?_, ?_⟩
    · dsimp only
      conv => cbv
      simp
    · show its.length - (p + 1) < its.length - p
      omega
  have g' := cNlt har (b := ar.len I) h
  have hpe : p = its.length := by omega
  rw [hpe, List.take_length] at hm
  have callH : ∀ (Γ : Ctx) (d' : Nat) (k : List PR → Prop) (R : Prop), Γ = ctx Try.prog d' → k [.s (.sl H [])] → Γ.g 75 [.s (.v (.int .i64 m)), .s (.v (.int .i64 128))] k ∨ R := fun Γ d' k R hΓ hk => call_by hΓ before_sound ⟨szs its, 128, by rw [hm], by omega, by omega, by omega, by rw [← hH]; exact hk⟩
  have hk : k [.s (.v (.int .i64 (ar.ib .add .i64 (ar.len H) m)))] := by
    rw [hHl, hm, iAdd har (by omega)]
    have e2 : sz (It.mk true d sd its ss) = (hd 128 (szs its)).length + szs its := by rw [sz, hd_lens 192 128]
    rw [e2, Int.natCast_add] at hk
    exact hk
  conv => cbv
  refine callH _ _ _ _ hΓ ?_
  conv => cbv
  exact hk
theorem refSize_sound : ∀ B, Sound Try.prog 59 (SizeRC B)
  | 0 => fun args k m W vs _ _ _ ⟨it, _, _, hb, _⟩ => by have := bulk_pos it; omega
  | B + 1 => refSize_step B (refSize_sound B)

theorem refCheckT_sound : Sound Try.prog 58 fun args k => ∃ it : It, args = [.a it.row] ∧ it.bulk ≤ 2 ^ 40 ∧ k [.s (.v (.int .i64 (errOf it)))] := by
  refine Sound.of_body tt_ok ent_ok Try.func58 rfl ?_
  rintro ar har Γ hΓ args k ⟨⟨l, d, sd, its, ss⟩, hargs, hb, hk⟩
  obtain ⟨D, hD⟩ : ∃ D, D = d.map b8 := ⟨_, rfl⟩
  obtain ⟨I, hI⟩ : ∃ I, I = rowsOf its := ⟨_, rfl⟩
  have hrow : (It.mk l d sd its ss).row = [.c (.v (.bool l)), .c (.sl D sd), .c (.sl I ss)] := by rw [hD, hI]; rfl
  have hDl : ar.len D = (d.length : Int) := by rw [lenIs har, hD, List.length_map]
  have hIl : ar.len I = (its.length : Int) := by rw [lenIs har, hI, rowsOf_length]
  have n1 : ar.nb true = false := by rw [har]; rfl
  have n2 : ar.nb false = true := by rw [har]; rfl
  simp only [It.bulk] at hb
  have hil := bulks_len its
  obtain ⟨it, hit⟩ : ∃ it, it = It.mk l d sd its ss := ⟨_, rfl⟩
  have hbk : it.bulk ≤ 2 ^ 40 := by rw [hit]; simpa only [It.bulk] using hb
  rw [← hit] at hk hrow
  obtain ⟨b, hbv⟩ : ∃ b, b = !okS it := ⟨_, rfl⟩
  obtain ⟨y, hy⟩ : ∃ z : Int, z = (dep it : Nat) := ⟨_, rfl⟩
  obtain ⟨z, hz⟩ : ∃ z : Int, z = (sz it : Nat) := ⟨_, rfl⟩
  have c1 : ∀ (Γ : Ctx) (d' : Nat) (k : List PR → Prop) (R : Prop), Γ = ctx Try.prog d' → k [.s (.v (.bool b))] → Γ.g 73 [.a it.row] k ∨ R := fun Γ d' k R hΓ hk => call_by hΓ (refOddly_sound _) ⟨it, rfl, hbk, Nat.le_refl _, by rw [← hbv]; exact hk⟩
  have c2 : ∀ (Γ : Ctx) (d' : Nat) (k : List PR → Prop) (R : Prop), Γ = ctx Try.prog d' → k [.s (.v (.int .i64 y))] → Γ.g 74 [.a it.row] k ∨ R := fun Γ d' k R hΓ hk => call_by hΓ (refDepth_sound _) ⟨it, rfl, hbk, Nat.le_refl _, by rw [← hy]; exact hk⟩
  have c3 : okS it = true → ∀ (Γ : Ctx) (d' : Nat) (k : List PR → Prop) (R : Prop), Γ = ctx Try.prog d' → k [.s (.v (.int .i64 z))] → Γ.g 59 [.a it.row] k ∨ R := fun ho Γ d' k R hΓ hk => call_by hΓ (refSize_sound _) ⟨it, rfl, ho, hbk, Nat.le_refl _, by rw [← hz]; exact hk⟩
  rw [← hit, hrow] at hargs
  rw [hrow] at c1 c2 c3
  subst hargs
  conv => cbv
  refine c1 _ _ _ _ hΓ ?_
  conv => cbv
  refine ⟨fun h => ?_, fun h => ?_⟩
  · have ho : okS it = false := by rw [h] at hbv; simpa using hbv.symm
    rw [errOf, ho] at hk
    conv => cbv
    exact hk
  have ho : okS it = true := by rw [h] at hbv; simpa using hbv.symm
  rw [errOf, if_pos ho] at hk
  conv => cbv
  refine c2 _ _ _ _ hΓ ?_
  conv => cbv
  refine ⟨fun h => ?_, fun h => ?_⟩
  · have g := cGt har (a := y) (b := 1024) h
    rw [if_pos (by omega)] at hk
    conv => cbv
    exact hk
  have g := cNgt har (a := y) (b := 1024) h
  rw [if_neg (by omega)] at hk
  conv => cbv
  refine c3 ho _ _ _ _ hΓ ?_
  conv => cbv
  refine ⟨fun h => ?_, fun h => ?_⟩
  · have g := cGt har (a := z) (b := 16777216) h
    rw [if_pos (by omega)] at hk
    conv => cbv
    exact hk
  have g := cNgt har (a := z) (b := 16777216) h
  rw [if_neg (by omega)] at hk
  conv => cbv
  exact hk
end Go.Eng
namespace Go.Eng
open Go Go.Proofs
set_option maxRecDepth 100000
set_option maxHeartbeats 16000000
set_option linter.unusedVariables false

theorem refSizeT_sound : Sound Try.prog 44 fun args k => ∃ it : It, args = [.a it.row] ∧ it.bulk ≤ 2 ^ 40 ∧ ∀ z : Int, k [.s (.v (.int .i64 z)), .s (.v (.int .i64 (errOf it)))] := by
  refine Sound.of_body tt_ok ent_ok Try.func44 rfl ?_
  rintro ar har Γ hΓ args k ⟨it, hargs, hb, hk⟩
  obtain ⟨a, ⟨b1, b2⟩, ⟨d1, d2⟩, hrow⟩ := row3 it
  obtain ⟨e, he⟩ : ∃ z : Int, z = (errOf it : Nat) := ⟨_, rfl⟩
  obtain ⟨z, hz⟩ : ∃ z : Int, z = (sz it : Nat) := ⟨_, rfl⟩
  have c1 : ∀ (Γ : Ctx) (d' : Nat) (k : List PR → Prop) (R : Prop), Γ = ctx Try.prog d' → k [.s (.v (.int .i64 e))] → Γ.g 58 [.a it.row] k ∨ R := fun Γ d' k R hΓ hk => call_by hΓ refCheckT_sound ⟨it, rfl, hb, by rw [← he]; exact hk⟩
  have ho : e = 0 → okS it = true := fun h => by
    cases h1 : okS it with
    | true => rfl
    | false => rw [errOf, h1] at he; simp at he; omega
  have c2 : okS it = true → ∀ (Γ : Ctx) (d' : Nat) (k : List PR → Prop) (R : Prop), Γ = ctx Try.prog d' → k [.s (.v (.int .i64 z))] → Γ.g 59 [.a it.row] k ∨ R := fun ho Γ d' k R hΓ hk => call_by hΓ (refSize_sound _) ⟨it, rfl, ho, hb, Nat.le_refl _, by rw [← hz]; exact hk⟩
  have k1 := hk 0
  have k2 : e = 0 → k [.s (.v (.int .i64 z)), .s (.v (.int .i64 0))] := fun h => by have := hk z; rw [← he, h] at this; exact this
  rw [← he] at k1
  rw [hrow] at hargs c1 c2
  clear hk he
  subst hargs
  conv => cbv
  refine c1 _ _ _ _ hΓ ?_
  conv => cbv
  refine ⟨fun h => ?_, fun h => ?_⟩
  · conv => cbv
    exact k1
  have g := cNne har (a := e) (b := 0) h
  have k2 := k2 g
  have c2 := c2 (ho g)
  conv => cbv
  refine c2 _ _ _ _ hΓ ?_
  conv => cbv
  exact k2

theorem sized_sound : Sound Try.prog 29 fun args k => ∃ it : It, args = [.a it.row] ∧ it.bulk ≤ 2 ^ 40 ∧ k [.a (if errOf it = 0 then it else .zero).row, .s (.v (.int .i64 (if errOf it = 0 then 0 else 2)))] := by
  refine Sound.of_body tt_ok ent_ok Try.func29 rfl ?_
  rintro ar har Γ hΓ args k ⟨it, hargs, hb, hk⟩
  obtain ⟨a, ⟨b1, b2⟩, ⟨d1, d2⟩, hrow⟩ := row3 it
  obtain ⟨e, he⟩ : ∃ z : Int, z = (errOf it : Nat) := ⟨_, rfl⟩
  have c1 : ∀ (Γ : Ctx) (d' : Nat) (k : List PR → Prop) (R : Prop), Γ = ctx Try.prog d' → (∀ z : Int, k [.s (.v (.int .i64 z)), .s (.v (.int .i64 e))]) → Γ.g 44 [.a it.row] k ∨ R := fun Γ d' k R hΓ hk => call_by hΓ refSizeT_sound ⟨it, rfl, hb, fun z => by rw [← he]; exact hk z⟩
  have k1 : e ≠ 0 → k [.a It.zero.row, .s (.v (.int .i64 2))] := fun h => by
    rw [if_neg (by omega), if_neg (by omega)] at hk; exact hk
  have k2 : e = 0 → k [.a it.row, .s (.v (.int .i64 0))] := fun h => by
    rw [if_pos (by omega), if_pos (by omega)] at hk; exact hk
  rw [hrow] at hargs c1 k2
  clear hk he
  subst hargs
  conv => cbv
  refine c1 _ _ _ _ hΓ fun z => ?_
  conv => cbv
  refine ⟨fun h => ?_, fun h => ?_⟩
  · have g := cNe har (a := e) (b := 0) h
    have k1 := k1 g
    conv => cbv
    exact k1
  · have g := cNne har (a := e) (b := 0) h
    have k2 := k2 g
    conv => cbv
    exact k2

theorem refAuthItem_sound : Sound Try.prog 15 fun args k => ∃ (us : List Au) (s : List (List PS)), args = [.s (.sl (us.map Au.row) s)] ∧ (∀ u ∈ us, u.ok) ∧ us.length ≤ 2 ^ 30 ∧ k (authItR us) := by
  refine Sound.of_body tt_ok ent_ok Try.func15 rfl ?_
  rintro ar har Γ hΓ args k ⟨us, s, hargs, hok, hb, hk⟩
  obtain ⟨X, hX⟩ : ∃ X, X = us.map Au.row := ⟨_, rfl⟩
  have hXl : ar.len X = (us.length : Int) := by rw [lenIs har, hX, List.length_map]
  have callX : ∀ (W s : List (List PS)) (w : List Int) (C : List (List PS)) (Γ : Ctx) (d' : Nat) (k : List PR → Prop), Γ = ctx Try.prog d' → C = W → W = w.map b8 → w.length ≤ 2 ^ 40 → k [.a (rtx W)] → Γ.g 28 [.s (.sl C s)] k := fun W s w C Γ d' k hΓ hc hw hl hk => call_by' hΓ textOf_sound ⟨w, s, by rw [hc, hw], hl, by rw [hw] at hk; exact hk⟩
  have callN : ∀ (n : Nat) (x : List Value) (D : List (List PS)) (Γ : Ctx) (d' : Nat) (k : List PR → Prop), Γ = ctx Try.prog d' → x = w4 n → n < M256 → D = (numB n).map b8 → k [.a (rtx D)] → Γ.g 32 [.a [.r 4 x]] k := fun n x D Γ d' k hΓ hx hn hD hk => call_by' hΓ refNumber_sound ⟨n, by unfold pw; rw [hx], hn, by rw [hD] at hk; exact hk⟩
  have callS : ∀ (n : Nat) (z : Int) (D : List (List PS)) (Γ : Ctx) (d' : Nat) (k : List PR → Prop), Γ = ctx Try.prog d' → z = n → n < 18446744073709551616 → D = (numB n).map b8 → k [.a (rtx D)] → Γ.g 33 [.s (.v (.int .u64 z))] k := fun n z D Γ d' k hΓ hz hn hD hk => call_by' hΓ ref7Small_sound ⟨n, by rw [hz], hn, by rw [hD] at hk; exact hk⟩
  have hub := us_bulk us hok
  rw [← hX] at hargs
  subst hargs
  conv => cbv
  refine .inr ⟨{ q : Nat × Int × List (List PS) // q.1 ≤ us.length ∧ q.2.1 = q.1 ∧ q.2.2 = rowsOf (usIts (us.take q.1)) ∧ wideU (us.take q.1) = false },
    fun q => ⟨mk 72 [(0, .s (.p (.sl X s))), (2, .s (.ptr 0 0)), (4, .s (.ptr 1 0)), (5, pint q.1.2.1)], [.box [.c (.bl false), .c .nil, .c .nil], .box [.c (.bl true), .c .nil, .c (.own 2)], .arr q.1.2.2 27 3 56 true]⟩,
    fun q => us.length - q.1.1, [.cell 1 2 27], _, ⟨(0, 0, []), Nat.zero_le _, rfl, rfl, rfl⟩, rfl, ?_, ?_⟩
  · conv => cbv
    simp
  · rintro ⟨⟨p, pi, Z⟩, hq⟩
    have hp : p ≤ us.length := hq.1
    have hpi : pi = (p : Int) := hq.2.1
    have hZ : Z = rowsOf (usIts (us.take p)) := hq.2.2.1
    have hw : wideU (us.take p) = false := hq.2.2.2
    dsimp only
    conv => cbv
    refine ⟨fun h => ?_, fun h => ?_⟩
    · have g := cLt har (b := ar.len X) h
      have hlt : p < us.length := by omega
      obtain ⟨u, hx⟩ : ∃ e, us[p]? = some e := ⟨_, List.getElem?_eq_getElem hlt⟩
      have huk := hok u (List.mem_of_getElem? hx)
      have hpb := parts_bulk huk
      obtain ⟨c1, hc1⟩ : ∃ x, x = w4 u.ch := ⟨_, rfl⟩
      obtain ⟨c2, hc2⟩ : ∃ x, x = u8s u.a := ⟨_, rfl⟩
      obtain ⟨c3, hc3⟩ : ∃ x : Int, x = u.no := ⟨_, rfl⟩
      obtain ⟨c4, hc4⟩ : ∃ x : Int, x = u.pa := ⟨_, rfl⟩
      obtain ⟨c5, hc5⟩ : ∃ x, x = w4 u.r := ⟨_, rfl⟩
      obtain ⟨c6, hc6⟩ : ∃ x, x = w4 u.s := ⟨_, rfl⟩
      obtain ⟨D1, hD1⟩ : ∃ x, x = (numB u.ch).map b8 := ⟨_, rfl⟩
      obtain ⟨D2, hD2⟩ : ∃ x, x = u.a.map b8 := ⟨_, rfl⟩
      obtain ⟨D3, hD3⟩ : ∃ x, x = (numB u.no).map b8 := ⟨_, rfl⟩
      obtain ⟨D4, hD4⟩ : ∃ x, x = (numB u.pa).map b8 := ⟨_, rfl⟩
      obtain ⟨D5, hD5⟩ : ∃ x, x = (numB u.r).map b8 := ⟨_, rfl⟩
      obtain ⟨D6, hD6⟩ : ∃ x, x = (numB u.s).map b8 := ⟨_, rfl⟩
      have rx : X[pi.toNat]? = some [.r 4 c1, .r 20 c2, .c (.v (.int .u64 c3)), .c (.v (.int .u64 c4)), .r 4 c5, .r 4 c6] := by rw [hX, hpi]; simp [hx, Au.row, hc1, hc2, hc3, hc4, hc5, hc6]
      have hcc : ar.cells c2 = D2 := by rw [hc2, hD2, bytes_cells ar har]
      obtain ⟨u1, u2, u3, u4, u5, u6⟩ := huk
      have wide1 : c4 > 255 → wideU us = true := fun h => by
        rw [wideU, List.any_eq_true]
        exact ⟨u, List.mem_of_getElem? hx, by rw [decide_eq_true_eq]; omega⟩
      have wide2 : ¬ c4 > 255 → wideU (us.take (p + 1)) = false := fun h => by
        rw [wideU, take_succ_get hx, List.any_append, ← wideU, hw, Bool.false_or, List.any_cons, List.any_nil, Bool.or_false, decide_eq_false_iff_not]; omega
      obtain ⟨J, hJ⟩ : ∃ J, J = rowsOf u.parts := ⟨_, rfl⟩
      have s1 : (0 + 3) * 56 ≤ 140737488355328 ∧ ∀ y ∈ [rtx D1, rtx D2, rtx D3], rlen y = 3 := ⟨by omega, by simp [rlen, PS.len, rtx]⟩
      obtain ⟨PP, hPP⟩ : ∃ P, P = ar.app (ar.app [] [rtx D1, rtx D2, rtx D3]) [rtx D4, rtx D5, rtx D6] := ⟨_, rfl⟩
      have ePP : PP = J := by rw [hPP, appIs har, appIs har, hJ, hD1, hD2, hD3, hD4, hD5, hD6]; rfl
      have s2 : ((ar.app [] [rtx D1, rtx D2, rtx D3]).length + 3) * 56 ≤ 140737488355328 ∧ ∀ y ∈ [rtx D4, rtx D5, rtx D6], rlen y = 3 := ⟨by rw [appIs har]; simp, by simp [rlen, PS.len, rtx]⟩
      have hZl : Z.length ≤ us.length := by rw [hZ, rowsOf_length, usIts, List.length_map, List.length_take]; omega
      have s3 : (Z.length + 1) * 56 ≤ 140737488355328 ∧ ∀ y ∈ [rls PP], rlen y = 3 := ⟨by omega, by simp [rlen, PS.len, rls]⟩
      have hZ2 : ar.app Z [rls PP] = rowsOf (usIts (us.take (p + 1))) := by
        rw [appIs har, hZ, take_succ_get hx, usIts, usIts, List.map_append, rowsOf_append, ePP, hJ]; rfl
      rw [hPP] at s3 hZ2
      conv => cbv
      refine ⟨_, by omega, rx, rfl, ?_⟩
      conv => cbv
      refine ⟨fun h => ?_, fun h => ?_⟩
      · have g2 := cGt har (a := c4) (b := 255) h
        rw [authItR, if_pos (wide1 g2)] at hk
        conv => cbv
        exact hk
      · have g2 := cNgt har (a := c4) (b := 255) h
        have hw2 := wide2 (by omega)
        conv => cbv
        refine ⟨_, by omega, rx, rfl, ?_⟩
        conv => cbv
        refine ⟨by rw [har]; kernel_rfl, ?_⟩
        refine callN u.ch c1 D1 _ _ _ hΓ hc1 u1 hD1 ?_
        conv => cbv
        refine callX D2 [] u.a _ _ _ _ hΓ hcc hD2 (by omega) ?_
        conv => cbv
        refine callS u.no c3 D3 _ _ _ hΓ hc3 u3 hD3 ?_
        conv => cbv
        refine ⟨fun _ => s1, ?_⟩
        conv => cbv
        refine ⟨by rw [har]; kernel_rfl, ?_⟩
        refine callS u.pa c4 D4 _ _ _ hΓ hc4 u4 hD4 ?_
        conv => cbv
        refine callN u.r c5 D5 _ _ _ hΓ hc5 u5 hD5 ?_
        conv => cbv
        refine callN u.s c6 D6 _ _ _ hΓ hc6 u6 hD6 ?_
        conv => cbv
        refine ⟨fun _ => s2, fun _ => s3, ?_⟩
        refine ⟨⟨(p + 1, ar.ib .add .i64 pi 1, ar.app Z [rls (ar.app (ar.app [] [rtx D1, rtx D2, rtx D3]) [rtx D4, rtx D5, rtx D6])]), hlt, iSucc har hpi (by omega), hZ2, hw2⟩, ?_, ?_⟩
        · dsimp only
          conv => cbv
          simp
        · show us.length - (p + 1) < us.length - p
          omega
    · have g := cNlt har (b := ar.len X) h
      have hpe : p = us.length := by omega
      rw [hpe, List.take_length] at hZ hw
      obtain ⟨er, her⟩ : ∃ z : Int, z = (errOf (It.lst (usIts us)) : Nat) := ⟨_, rfl⟩
      obtain ⟨F, hF⟩ : ∃ F, F = (if errOf (It.lst (usIts us)) = 0 then It.lst (usIts us) else .zero).row := ⟨_, rfl⟩
      obtain ⟨fe, hfe⟩ : ∃ e : Int, e = (if errOf (It.lst (usIts us)) = 0 then 0 else 2) := ⟨_, rfl⟩
      have callF : ∀ (Γ : Ctx) (d' : Nat) (k : List PR → Prop) (R : Prop), Γ = ctx Try.prog d' → k [.a F, .s (.v (.int .i64 fe))] → Γ.g 29 [.a [.c (.v (.bool true)), .c (.sl [] []), .c (.sl Z [])]] k ∨ R := fun Γ d' k R hΓ hk => call_by hΓ sized_sound ⟨It.lst (usIts us), by rw [hZ]; rfl, by simp only [It.lst, It.bulk, List.length_nil]; omega, by rw [hF, hfe] at hk; exact hk⟩
      rw [authItR, hw, if_neg (by decide), ← hF, ← hfe] at hk
      obtain ⟨a, ⟨b1, b2⟩, ⟨d1, d2⟩, hrow⟩ := row3 (if errOf (It.lst (usIts us)) = 0 then It.lst (usIts us) else .zero)
      rw [← hF] at hrow
      rw [hrow] at hk callF
      conv => cbv
      refine callF _ _ _ _ hΓ ?_
      conv => cbv
      exact hk
end Go.Eng
