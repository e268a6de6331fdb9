/-
  access.auth: an item as an authorization. Conditions: bytes in their range, at most 2^40 nodes and bytes.
  access.ParseAuth: an item as authorizations. Conditions: bytes in their range, sizes up to 2^40.
  waybilllaw14: num, sameAuths. Condition: at most 2^30 authorizations.
  What AccessBack comes to, in plain words: what is read of the item of a list, of authorizations, is the list, the authorizations. No program in sight.
-/
import Derived.Test.YtnaafeeloicklaaDoorRC
import Derived.Test.YtnaafeeloicklaaDoorUA
namespace Go.Eng
open Go Go.Proofs
set_option maxRecDepth 100000
set_option maxHeartbeats 4000000
set_option linter.unusedVariables false

def auOf : List It → Option Au
  | [x0, x1, x2, x3, x4, x5] =>
    if (x0.num 32).2 = 0 then if (x1.getFixed 20).2 = 0 then if (x2.num 8).2 = 0 then if (x3.num 8).2 = 0 ∧ (x3.num 8).1 ≤ 255 then if (x4.num 32).2 = 0 then if (x5.num 32).2 = 0 then
      some ⟨(x0.num 32).1, (x1.getFixed 20).1, (x2.num 8).1, (x3.num 8).1, (x4.num 32).1, (x5.num 32).1⟩
    else none else none else none else none else none else none
  | _ => none
def authOf (it : It) : Option Au := if it.getList.2 = 0 then auOf it.getList.1 else none
def zAu : Au := ⟨0, List.replicate 20 0, 0, 0, 0, 0⟩
def auR : Option Au → List PR
  | some u => [.a u.row, .s (.v (.bool true))]
  | none => [.a zAu.row, .s (.v (.bool false))]

theorem call_inN {P : Program} {ar : Ar} {Γ : Ctx} {d : Nat} {f : FuncId} {fn : Func} {c : Code} {st : List Value → Func → St} {κ : List Value → Func → Kt} (har : ar = arS) (hΓ : Γ = ctx P (d + 1)) (hf : P.funcs[f]? = some fn) (hb : fn.body = some c)
    (h : ∀ Γ', Γ' = ctx P d → ∀ vs, vcC ar Γ' c (st vs fn) (κ vs fn)) : ∃ fn c, Γ.bd f fn c ∧ ∀ vs, Γ.inl c (st vs fn) (κ vs fn) := by
  subst hΓ; subst har
  exact ⟨fn, c, ⟨hf, hb⟩, fun vs => h _ rfl vs⟩

theorem auOf_none : ∀ l : List It, l.length ≠ 6 → auOf l = none
  | [], _ => rfl
  | [_], _ => rfl
  | [_, _], _ => rfl
  | [_, _, _], _ => rfl
  | [_, _, _, _], _ => rfl
  | [_, _, _, _, _], _ => rfl
  | [_, _, _, _, _, _], h => absurd rfl h
  | _ :: _ :: _ :: _ :: _ :: _ :: _ :: _, _ => rfl
theorem six_of : ∀ l : List It, l.length = 6 → ∃ x0 x1 x2 x3 x4 x5, l = [x0, x1, x2, x3, x4, x5]
  | [x0, x1, x2, x3, x4, x5], _ => ⟨x0, x1, x2, x3, x4, x5, rfl⟩

theorem auth_sound : Sound Tryd.prog 91 fun args k => ∃ (it : It), args = [.a it.row] ∧ it.byt ∧ it.bulk ≤ 2 ^ 40 ∧ k (auR (authOf it)) := by
  refine Sound.of_bodyI 1 tt_ok ent_ok Tryd.func91 rfl ?_
  rintro ar har Γ hΓ args k ⟨it, hargs, hby, hb, hk⟩
  have callGL : ∀ (it : It) (A : List PS) (B : List (List PS)) (e : Int) (Γ : Ctx) (d' : Nat) (k : List PR → Prop) (R : Prop), Γ = ctx Tryd.prog d' → it.row = A → it.bulk ≤ 2 ^ 40 → B = rowsOf it.getList.1 → e = it.getList.2 → k [.s (.sl B []), .s (.v (.int .i64 e))] → Γ.g 88 [.a A] k ∨ R := fun it A B e Γ d' k R hΓ hA hb hB he hk => call_by hΓ getList_sound ⟨it, by rw [hA], hb, by rw [← hB, ← he]; exact hk⟩
  have callGF : ∀ (it : It) (n : Nat) (m : Int) (A : List PS) (B : List (List PS)) (e : Int) (Γ : Ctx) (d' : Nat) (k : List PR → Prop) (R : Prop), Γ = ctx Tryd.prog d' → m = (n : Int) → it.row = A → it.bulk ≤ 2 ^ 40 → B = (it.getFixed n).1.map b8 → e = (it.getFixed n).2 → k [.s (.sl B []), .s (.v (.int .i64 e))] → Γ.g 90 [.a A, .s (.v (.int .i64 m))] k ∨ R := fun it n m A B e Γ d' k R hΓ hm hA hb hB he hk => call_by hΓ getFixed_sound ⟨it, n, by rw [hA, hm], hb, by rw [← hB, ← he]; exact hk⟩
  have callGN : ∀ (it : It) (A : List PS) (x : List Value) (e : Int) (Γ : Ctx) (d' : Nat) (k : List PR → Prop) (R : Prop), Γ = ctx Tryd.prog d' → it.row = A → it.byt → it.bulk ≤ 2 ^ 40 → x = w4 (it.num 32).1 → e = (it.num 32).2 → k [.a [.r 4 x], .s (.v (.int .i64 e))] → Γ.g 77 [.a A] k ∨ R := fun it A x e Γ d' k R hΓ hA hy hb hx he hk => call_by hΓ getNumber_sound ⟨it, by rw [hA], hy, hb, by unfold pw; rw [← hx, ← he]; exact hk⟩
  have callGS : ∀ (it : It) (A : List PS) (z : Int) (e : Int) (Γ : Ctx) (d' : Nat) (k : List PR → Prop) (R : Prop), Γ = ctx Tryd.prog d' → it.row = A → it.byt → it.bulk ≤ 2 ^ 40 → z = ((it.num 8).1 : Nat) → e = (it.num 8).2 → k [.s (.v (.int .u64 z)), .s (.v (.int .i64 e))] → Γ.g 86 [.a A] k ∨ R := fun it A z e Γ d' k R hΓ hA hy hb hx he hk => call_by hΓ getSmall_sound ⟨it, by rw [hA], hy, hb, by rw [← hx, ← he]; exact hk⟩
  obtain ⟨a, ⟨b1, b2⟩, ⟨c1, c2⟩, hA⟩ := row3 it
  obtain ⟨P, hP⟩ : ∃ P, P = rowsOf it.getList.1 := ⟨_, rfl⟩
  obtain ⟨e, he⟩ : ∃ e, e = it.getList.2 := ⟨_, rfl⟩
  have hPl : ar.len P = (it.getList.1.length : Int) := by rw [lenIs har, hP, rowsOf_length]
  have hPb := getList_bulk it
  have hPy := getList_byt hby
  rw [hA] at hargs
  have hno : (authOf it = none) → k [.a zAu.row, .s (.v (.bool false))] := fun h => by rw [h] at hk; exact hk
  have i0 : (0 : Int) ≤ 0 := by omega
  have nT : ar.nb false = true := by rw [har]; rfl
  have nF : ar.nb true = false := by rw [har]; rfl
  have i1 : (0 : Int) ≤ 1 := by omega
  have i2 : (0 : Int) ≤ 2 := by omega
  have i3 : (0 : Int) ≤ 3 := by omega
  have i4 : (0 : Int) ≤ 4 := by omega
  have i5 : (0 : Int) ≤ 5 := by omega
  subst hargs
  conv => cbv
  refine call_inN har hΓ Tryd.func93 rfl ?_
  intro Γ' hΓ' vs
  conv => cbv
  refine call_inN har hΓ Tryd.func94 rfl ?_
  intro Γ' hΓ' vs
  conv => cbv
  refine call_inN har hΓ Tryd.func95 rfl ?_
  intro Γ' hΓ' vs
  conv => cbv
  refine call_inN har hΓ Tryd.func95 rfl ?_
  intro Γ' hΓ' vs
  conv => cbv
  refine call_inN har hΓ Tryd.func93 rfl ?_
  intro Γ' hΓ' vs
  conv => cbv
  refine call_inN har hΓ Tryd.func93 rfl ?_
  intro Γ' hΓ' vs
  conv => cbv
  refine callGL it _ P e _ _ _ _ hΓ hA hb hP he ?_
  conv => cbv
  refine ⟨fun h => ?_, fun h => ?_⟩
  · have g := cNne har (a := e) (b := 0) h
    have hO : authOf it = auOf it.getList.1 := by rw [authOf, if_pos (by rw [← he]; exact g)]
    conv => cbv
    refine ⟨fun h => ?_, fun h => ?_⟩
    · have g2 := cNe har (a := ar.len P) (b := 6) h
      have hr := hno (by rw [hO]; exact auOf_none _ (by omega))
      conv => cbv
      exact hr
    · have g2 := cNne har (a := ar.len P) (b := 6) h
      obtain ⟨x0, x1, x2, x3, x4, x5, hx⟩ := six_of it.getList.1 (by omega)
      rw [hx] at hP hO hPb hPy
      simp only [bulks] at hPb
      obtain ⟨y0, y1, y2, y3, y4, y5, -⟩ := hPy
      obtain ⟨a0, ⟨b01, b02⟩, ⟨c01, c02⟩, hX0⟩ := row3 x0
      obtain ⟨a1, ⟨b11, b12⟩, ⟨c11, c12⟩, hX1⟩ := row3 x1
      obtain ⟨a2, ⟨b21, b22⟩, ⟨c21, c22⟩, hX2⟩ := row3 x2
      obtain ⟨a3, ⟨b31, b32⟩, ⟨c31, c32⟩, hX3⟩ := row3 x3
      obtain ⟨a4, ⟨b41, b42⟩, ⟨c41, c42⟩, hX4⟩ := row3 x4
      obtain ⟨a5, ⟨b51, b52⟩, ⟨c51, c52⟩, hX5⟩ := row3 x5
      have r0 : P[(0 : Int).toNat]? = some [.c (.v (.bool a0)), .c (.sl b01 b02), .c (.sl c01 c02)] := by rw [hP, ← hX0]; rfl
      have r1 : P[(1 : Int).toNat]? = some [.c (.v (.bool a1)), .c (.sl b11 b12), .c (.sl c11 c12)] := by rw [hP, ← hX1]; rfl
      have r2 : P[(2 : Int).toNat]? = some [.c (.v (.bool a2)), .c (.sl b21 b22), .c (.sl c21 c22)] := by rw [hP, ← hX2]; rfl
      have r3 : P[(3 : Int).toNat]? = some [.c (.v (.bool a3)), .c (.sl b31 b32), .c (.sl c31 c32)] := by rw [hP, ← hX3]; rfl
      have r4 : P[(4 : Int).toNat]? = some [.c (.v (.bool a4)), .c (.sl b41 b42), .c (.sl c41 c42)] := by rw [hP, ← hX4]; rfl
      have r5 : P[(5 : Int).toNat]? = some [.c (.v (.bool a5)), .c (.sl b51 b52), .c (.sl c51 c52)] := by rw [hP, ← hX5]; rfl
      obtain ⟨v0, hv0⟩ : ∃ x, x = w4 (x0.num 32).1 := ⟨_, rfl⟩
      obtain ⟨e0, he0⟩ : ∃ x, x = (x0.num 32).2 := ⟨_, rfl⟩
      obtain ⟨D, hD⟩ : ∃ D, D = (x1.getFixed 20).1.map b8 := ⟨_, rfl⟩
      obtain ⟨e1, he1⟩ : ∃ x, x = (x1.getFixed 20).2 := ⟨_, rfl⟩
      obtain ⟨v1, hv1⟩ : ∃ x, x = u8s (x1.getFixed 20).1 := ⟨_, rfl⟩
      obtain ⟨v2, hv2⟩ : ∃ x : Int, x = ((x2.num 8).1 : Nat) := ⟨_, rfl⟩
      obtain ⟨e2, he2⟩ : ∃ x, x = (x2.num 8).2 := ⟨_, rfl⟩
      obtain ⟨v3, hv3⟩ : ∃ x : Int, x = ((x3.num 8).1 : Nat) := ⟨_, rfl⟩
      obtain ⟨e3, he3⟩ : ∃ x, x = (x3.num 8).2 := ⟨_, rfl⟩
      obtain ⟨v4, hv4⟩ : ∃ x, x = w4 (x4.num 32).1 := ⟨_, rfl⟩
      obtain ⟨e4, he4⟩ : ∃ x, x = (x4.num 32).2 := ⟨_, rfl⟩
      obtain ⟨v5, hv5⟩ : ∃ x, x = w4 (x5.num 32).1 := ⟨_, rfl⟩
      obtain ⟨e5, he5⟩ : ∃ x, x = (x5.num 32).2 := ⟨_, rfl⟩
      have hlt2 : (x2.num 8).1 < 18446744073709551616 := num_lt y2
      have nle2 : ∀ v : Int, v = ((x2.num 8).1 : Nat) → ar.nb (ar.cb .leq v 18446744073709551615) = false := fun v hv => by
        have h2 : ar.cb .leq v 18446744073709551615 = true := tcb har (by simp only [intC, decide_eq_true_eq]; omega)
        rw [h2]; exact nF
      conv => cbv
      refine .inl ⟨7, ?_⟩
      conv => cbv
      refine ⟨_, i0, r0, rfl, ?_⟩
      conv => cbv
      refine call_inN har hΓ Tryd.func97 rfl ?_
      intro Γ' hΓ' vs
      conv => cbv
      refine callGN x0 _ v0 e0 _ _ _ _ hΓ' hX0 y0 (by omega) hv0 he0 ?_
      conv => cbv
      refine ⟨fun h => ?_, fun h => ?_⟩
      · have g3 : e0 ≠ 0 := cNeq har (a := e0) (b := 0) (nbT har h)
        have hr := hno (by rw [hO, auOf, if_neg (by rw [← he0]; exact g3)])
        conv => cbv
        exact hr
      have g3 : e0 = 0 := cEq har (a := e0) (b := 0) (nbF har h)
      have hO1 := hO
      rw [auOf, if_pos (by rw [← he0]; exact g3)] at hO1
      conv => cbv
      refine ⟨_, i1, r1, rfl, ?_⟩
      conv => cbv
      refine call_inN har hΓ Tryd.func98 rfl ?_
      intro Γ' hΓ' vs
      conv => cbv
      refine callGF x1 20 20 _ D e1 _ _ _ _ hΓ' rfl hX1 (by omega) hD he1 ?_
      conv => cbv
      refine ⟨fun h => ?_, fun h => ?_⟩
      · have g5 : e1 ≠ 0 := cNe har (a := e1) (b := 0) h
        have hr := hno (by rw [hO1]; rw [if_neg (by rw [← he1]; exact g5)])
        conv => cbv
        exact hr
      have g5_1 : e1 = 0 := cNne har (a := e1) (b := 0) h
      have hO2 := hO1
      rw [if_pos (by rw [← he1]; exact g5_1)] at hO2
      have hlen20 : (x1.getFixed 20).1.length = 20 := getFixed_len (by rw [← he1]; exact g5_1)
      have hcut := take20 hD hlen20
      rw [← hv1] at hcut
      have hv1l : v1.length = 20 := by rw [hv1, u8s, List.length_map, hlen20]
      conv => cbv
      refine ⟨by rw [har]; kernel_rfl, ?_⟩
      refine ⟨v1, hv1l, hcut, ?_⟩
      conv => cbv
      refine ⟨_, i2, r2, rfl, ?_⟩
      conv => cbv
      refine call_inN har hΓ Tryd.func99 rfl ?_
      intro Γ' hΓ' vs
      conv => cbv
      refine callGS x2 _ v2 e2 _ _ _ _ hΓ' hX2 y2 (by omega) hv2 he2 ?_
      conv => cbv
      refine ⟨fun h => ?_, fun h => ?_⟩
      rotate_left
      · have g5 : e2 ≠ 0 := cNeq har (a := e2) (b := 0) h
        have hr := hno (by rw [hO2]; rw [if_neg (by rw [← he2]; exact g5)])
        conv => cbv
        exact hr
      have g5_2 : e2 = 0 := cEq har (a := e2) (b := 0) h
      conv => cbv
      refine onF (nle2 v2 hv2) ?_
      have hO3 := hO2
      rw [if_pos (by rw [← he2]; exact g5_2)] at hO3
      conv => cbv
      refine ⟨_, i3, r3, rfl, ?_⟩
      conv => cbv
      refine call_inN har hΓ Tryd.func99 rfl ?_
      intro Γ' hΓ' vs
      conv => cbv
      refine callGS x3 _ v3 e3 _ _ _ _ hΓ' hX3 y3 (by omega) hv3 he3 ?_
      conv => cbv
      refine ⟨fun h => ?_, fun h => ?_⟩
      rotate_left
      · have g5 : e3 ≠ 0 := cNeq har (a := e3) (b := 0) h
        have hr := hno (by rw [hO3]; rw [if_neg (fun hh => g5 (by rw [he3]; exact hh.1))])
        conv => cbv
        exact hr
      have g5_3 : e3 = 0 := cEq har (a := e3) (b := 0) h
      conv => cbv
      refine ⟨fun h => ?_, fun h => ?_⟩
      · have g5 : ¬ v3 ≤ 255 := Int.not_le.2 (cNle har (a := v3) (b := 255) (nbT har h))
        have hr := hno (by rw [hO3]; rw [if_neg (fun hh => g5 (by rw [hv3]; exact Int.ofNat_le.2 hh.2))])
        conv => cbv
        exact hr
      have g6_3 : v3 ≤ 255 := cLe har (a := v3) (b := 255) (nbF har h)
      have hO4 := hO3
      rw [if_pos ⟨by rw [← he3]; exact g5_3, by rw [hv3] at g6_3; exact Int.ofNat_le.1 g6_3⟩] at hO4
      conv => cbv
      refine ⟨_, i4, r4, rfl, ?_⟩
      conv => cbv
      refine call_inN har hΓ Tryd.func97 rfl ?_
      intro Γ' hΓ' vs
      conv => cbv
      refine callGN x4 _ v4 e4 _ _ _ _ hΓ' hX4 y4 (by omega) hv4 he4 ?_
      conv => cbv
      refine ⟨fun h => ?_, fun h => ?_⟩
      · have g5 : e4 ≠ 0 := cNeq har (a := e4) (b := 0) (nbT har h)
        have hr := hno (by rw [hO4]; rw [if_neg (by rw [← he4]; exact g5)])
        conv => cbv
        exact hr
      have g5_4 : e4 = 0 := cEq har (a := e4) (b := 0) (nbF har h)
      have hO5 := hO4
      rw [if_pos (by rw [← he4]; exact g5_4)] at hO5
      conv => cbv
      refine ⟨_, i5, r5, rfl, ?_⟩
      conv => cbv
      refine call_inN har hΓ Tryd.func97 rfl ?_
      intro Γ' hΓ' vs
      conv => cbv
      refine callGN x5 _ v5 e5 _ _ _ _ hΓ' hX5 y5 (by omega) hv5 he5 ?_
      conv => cbv
      refine ⟨fun h => ?_, fun h => ?_⟩
      · have g5 : e5 ≠ 0 := cNeq har (a := e5) (b := 0) (nbT har h)
        have hr := hno (by rw [hO5]; rw [if_neg (by rw [← he5]; exact g5)])
        conv => cbv
        exact hr
      have g5_5 : e5 = 0 := cEq har (a := e5) (b := 0) (nbF har h)
      have hO6 := hO5
      rw [if_pos (by rw [← he5]; exact g5_5)] at hO6
      rw [hO6] at hk
      have hk : k [.a [.r 4 v0, .r 20 v1, .c (.v (.int .u64 v2)), .c (.v (.int .u64 v3)), .r 4 v4, .r 4 v5], .s (.v (.bool true))] := by rw [hv0, hv1, hv2, hv3, hv4, hv5]; exact hk
      conv => cbv
      exact hk
  · have g := cNe har (a := e) (b := 0) h
    have hr := hno (by rw [authOf, if_neg (by rw [← he]; exact g)])
    conv => cbv
    exact hr
end Go.Eng
namespace Go.Eng
open Go Go.Proofs
set_option maxRecDepth 100000
set_option maxHeartbeats 4000000
set_option linter.unusedVariables false

def consU (x : Option Au) (l : Option (List Au)) : Option (List Au) :=
  match x with
  | some u => l.map (u :: ·)
  | none => none
def ausOf : List It → Option (List Au)
  | [] => some []
  | x :: l => consU (authOf x) (ausOf l)
def parseAOf (it : It) : Option (List Au) := if it.getList.2 = 0 then ausOf it.getList.1 else none
def parseAR : Option (List Au) → List PR
  | some us => [.s (.sl (us.map Au.row) []), .s (.v (.int .i64 0))]
  | none => [.s (.sl [] []), .s (.v (.int .i64 141))]

theorem ausOf_append : ∀ (a : List It) (x : It), ausOf (a ++ [x]) = match ausOf a, authOf x with | some l, some u => some (l ++ [u]) | _, _ => none
  | [], x => by
    simp only [List.nil_append, ausOf, consU]
    cases authOf x <;> rfl
  | y :: a, x => by
    simp only [List.cons_append, ausOf]
    rw [ausOf_append a x]
    cases h1 : authOf y with
    | none => cases ausOf a <;> cases authOf x <;> rfl
    | some p => cases ausOf a <;> cases authOf x <;> rfl
theorem ausOf_none : ∀ (a b : List It), ausOf a = none → ausOf (a ++ b) = none
  | [], _, h => by cases h
  | x :: a, b, h => by
    simp only [List.cons_append, ausOf] at h ⊢
    cases h1 : authOf x with
    | none => rfl
    | some p =>
      rw [h1] at h
      cases h2 : ausOf a with
      | none => rw [ausOf_none a b h2]; rfl
      | some l => rw [h2] at h; cases h

theorem parseAuth_sound : Sound Tryd.prog 76 fun args k => ∃ (it : It), args = [.a it.row] ∧ it.byt ∧ it.bulk ≤ 2 ^ 39 ∧ k (parseAR (parseAOf it)) := by
  refine Sound.of_body tt_ok ent_ok Tryd.func76 rfl ?_
  rintro ar har Γ hΓ args k ⟨it, hargs, hby, hb, hk⟩
  have callGL : ∀ (it : It) (A : List PS) (B : List (List PS)) (e : Int) (Γ : Ctx) (d' : Nat) (k : List PR → Prop) (R : Prop), Γ = ctx Tryd.prog d' → it.row = A → it.bulk ≤ 2 ^ 40 → B = rowsOf it.getList.1 → e = it.getList.2 → k [.s (.sl B []), .s (.v (.int .i64 e))] → Γ.g 88 [.a A] k ∨ R := fun it A B e Γ d' k R hΓ hA hb hB he hk => call_by hΓ getList_sound ⟨it, by rw [hA], hb, by rw [← hB, ← he]; exact hk⟩
  have callE : ∀ (it : It) (A : List PS) (c1 c2 c5 c6 : List Value) (c3 c4 : Int) (o : Bool) (Γ : Ctx) (d' : Nat) (k : List PR → Prop) (R : Prop), Γ = ctx Tryd.prog d' → it.row = A → it.byt → it.bulk ≤ 2 ^ 40 → auR (authOf it) = [.a [.r 4 c1, .r 20 c2, .c (.v (.int .u64 c3)), .c (.v (.int .u64 c4)), .r 4 c5, .r 4 c6], .s (.v (.bool o))] → k [.a [.r 4 c1, .r 20 c2, .c (.v (.int .u64 c3)), .c (.v (.int .u64 c4)), .r 4 c5, .r 4 c6], .s (.v (.bool o))] → Γ.g 91 [.a A] k ∨ R := fun it A c1 c2 c5 c6 c3 c4 o Γ d' k R hΓ hA hy hb he hk => call_by hΓ auth_sound ⟨it, by rw [hA], hy, hb, by rw [he]; exact hk⟩
  obtain ⟨a, ⟨b1, b2⟩, ⟨c1, c2⟩, hA⟩ := row3 it
  obtain ⟨P, hP⟩ : ∃ P, P = rowsOf it.getList.1 := ⟨_, rfl⟩
  obtain ⟨e, he⟩ : ∃ e, e = it.getList.2 := ⟨_, rfl⟩
  have hPl : ar.len P = (it.getList.1.length : Int) := by rw [lenIs har, hP, rowsOf_length]
  have hPb := getList_bulk it
  have hpl := bulks_len it.getList.1
  have hPy := getList_byt hby
  rw [hA] at hargs
  have hno : (parseAOf it = none) → k [.s (.sl [] []), .s (.v (.int .i64 141))] := fun h => by rw [h] at hk; exact hk
  subst hargs
  conv => cbv
  refine callGL it _ P e _ _ _ _ hΓ hA (by omega) hP he ?_
  conv => cbv
  refine ⟨fun h => ?_, fun h => ?_⟩
  · have g := cNe har (a := e) (b := 0) h
    have hr := hno (by rw [parseAOf, if_neg (by rw [← he]; exact g)])
    conv => cbv
    exact hr
  · have g := cNne har (a := e) (b := 0) h
    have hO : parseAOf it = ausOf it.getList.1 := by rw [parseAOf, if_pos (by rw [← he]; exact g)]
    conv => cbv
    refine .inr ⟨{ q : Nat × Int × List (List PS) // q.1 ≤ it.getList.1.length ∧ q.2.1 = q.1 ∧ ∃ es, ausOf (it.getList.1.take q.1) = some es ∧ q.2.2 = es.map Au.row ∧ es.length = q.1 },
      fun q => ⟨mk 37 [(2, .s .nil), (3, .s (.lit .i64 0)), (6, .s (.own 1)), (18, .s (.p (.sl P []))), (19, pint (ar.len P)), (20, pint q.1.2.1)], [.gone, .arr q.1.2.2 69 34 136 true]⟩,
      fun q => it.getList.1.length - q.1.1, [.slot 6 69], _, ⟨(0, 0, []), Nat.zero_le _, rfl, [], rfl, rfl, rfl⟩, rfl, ?_, ?_⟩
    · conv => cbv
      simp
    · rintro ⟨⟨r, ri, L⟩, hr⟩
      have hrp : r ≤ it.getList.1.length := hr.1
      have hri : ri = (r : Int) := hr.2.1
      obtain ⟨es, hes, hL, hel⟩ : ∃ es, ausOf (it.getList.1.take r) = some es ∧ L = es.map Au.row ∧ es.length = r := hr.2.2
      have hLl : L.length = r := by rw [hL, List.length_map, hel]
      dsimp only
      conv => cbv
      refine ⟨fun h => ?_, fun h => ?_⟩
      · have g' := cLt har (b := ar.len P) h
        have hrl : r < it.getList.1.length := by omega
        obtain ⟨w, hw⟩ : ∃ w, it.getList.1[r]? = some w := ⟨_, List.getElem?_eq_getElem hrl⟩
        obtain ⟨wa, ⟨wb1, wb2⟩, ⟨wc1, wc2⟩, hWr⟩ := row3 w
        have hwb := bulk_get hw
        have rw1 : P[ri.toNat]? = some [.c (.v (.bool wa)), .c (.sl wb1 wb2), .c (.sl wc1 wc2)] := by rw [hP, hri, Int.toNat_natCast, rowsOf_get hw, hWr]
        have hwy := byts_mem hPy (List.mem_of_getElem? hw)
        obtain ⟨c1, c2, c5, c6, c3, c4, o, hE⟩ : ∃ c1 c2 c5 c6 c3 c4 o, auR (authOf w) = [.a [.r 4 c1, .r 20 c2, .c (.v (.int .u64 c3)), .c (.v (.int .u64 c4)), .r 4 c5, .r 4 c6], .s (.v (.bool o))] := by
          cases authOf w with
          | none => exact ⟨_, _, _, _, _, _, _, rfl⟩
          | some u => exact ⟨_, _, _, _, _, _, _, rfl⟩
        have hA1 : o = false → authOf w = none := fun h => by
          subst h
          cases h1 : authOf w with
          | none => rfl
          | some p => rw [h1] at hE; simp [auR] at hE
        have hA2 : o = true → ∃ u, authOf w = some u ∧ u.row = [.r 4 c1, .r 20 c2, .c (.v (.int .u64 c3)), .c (.v (.int .u64 c4)), .r 4 c5, .r 4 c6] := fun h => by
          subst h
          cases h1 : authOf w with
          | none => rw [h1] at hE; simp [auR] at hE
          | some u => rw [h1] at hE; simp only [auR, List.cons.injEq, PR.a.injEq] at hE; exact ⟨u, rfl, hE.1⟩
        conv => cbv
        refine ⟨_, by omega, rw1, rfl, ?_⟩
        conv => cbv
        refine callE w _ c1 c2 c5 c6 c3 c4 o _ _ _ _ hΓ hWr hwy (by omega) hE ?_
        conv => cbv
        refine ⟨fun h => ?_, fun h => ?_⟩
        · have g5 := nbT har h
          have hn : ausOf it.getList.1 = none := by
            rw [← List.take_append_drop (r + 1) it.getList.1]
            refine ausOf_none _ _ ?_
            rw [take_succ_get hw, ausOf_append, hes, hA1 g5]
          have hr := hno (by rw [hO, hn])
          conv => cbv
          exact hr
        · have g5 := nbF har h
          obtain ⟨u, hE1, hE2⟩ := hA2 g5
          have hes2 : ausOf (it.getList.1.take (r + 1)) = some (es ++ [u]) := by
            rw [take_succ_get hw, ausOf_append, hes, hE1]
          have hL2 : ar.app L [[.r 4 c1, .r 20 c2, .c (.v (.int .u64 c3)), .c (.v (.int .u64 c4)), .r 4 c5, .r 4 c6]] = (es ++ [u]).map Au.row := by
            rw [appIs har, hL, List.map_append, ← hE2]; rfl
          have s1 : (L.length + 1) * 136 ≤ 140737488355328 ∧ ∀ y ∈ [[PS.r 4 c1, .r 20 c2, .c (.v (.int .u64 c3)), .c (.v (.int .u64 c4)), .r 4 c5, .r 4 c6]], rlen y = 34 := ⟨by omega, by simp [rlen, PS.len]⟩
          conv => cbv
          refine ⟨fun _ => s1, ?_⟩
          refine ⟨⟨(r + 1, ar.ib .add .i64 ri 1, ar.app L [[.r 4 c1, .r 20 c2, .c (.v (.int .u64 c3)), .c (.v (.int .u64 c4)), .r 4 c5, .r 4 c6]]), hrl, iSucc har hri (by omega), _, hes2, hL2, by rw [List.length_append, hel]; rfl⟩, ?_, ?_⟩
          · dsimp only
            conv => cbv
            simp
          · show it.getList.1.length - (r + 1) < it.getList.1.length - r
            omega
      · have g' := cNlt har (b := ar.len P) h
        have hre : r = it.getList.1.length := by omega
        rw [hre, List.take_length] at hes
        rw [hO, hes] at hk
        have hk : k [.s (.sl L []), .s (.v (.int .i64 0))] := by rw [hL]; exact hk
        conv => cbv
        exact hk
end Go.Eng
namespace Go.Eng
open Go Go.Proofs
set_option maxRecDepth 100000
set_option maxHeartbeats 4000000
set_option linter.unusedVariables false

end Go.Eng
namespace Go.Eng
open Go Go.Proofs
set_option linter.unusedVariables false

/-! ### Numbers come back from their bytes -/
theorem be_zero_top {n p : Nat} : be n (p + 1) = ((n / 256 ^ p % 256 : Nat) : Int) :: be n p := rfl
theorem bev_cons (b : Int) (l : List Int) : bev (b :: l) = b.toNat * 256 ^ l.length + bev l := by
  have : ∀ (l : List Int) (n : Nat), l.foldl (fun n b => n * 256 + b.toNat) n = n * 256 ^ l.length + l.foldl (fun n b => n * 256 + b.toNat) 0 := by
    intro l
    induction l with
    | nil => intro n; simp
    | cons c l ih =>
      intro n
      rw [List.foldl_cons, List.foldl_cons, ih, ih (0 * 256 + c.toNat), List.length_cons, Nat.pow_succ, Nat.add_mul, Nat.zero_mul, Nat.zero_add, Nat.mul_comm (256 ^ l.length) 256, ← Nat.mul_assoc, Nat.add_assoc]
  unfold bev
  rw [List.foldl_cons, this, Nat.zero_mul, Nat.zero_add]
theorem bev_be (n : Nat) : ∀ p, bev (be n p) = n % 256 ^ p
  | 0 => by rw [be, Nat.pow_zero, Nat.mod_one]; rfl
  | p + 1 => by
    rw [be, bev_cons, be_length, bev_be n p, Int.toNat_natCast]
    have h1 := Nat.mod_add_div (n % 256 ^ (p + 1)) (256 ^ p)
    have h2 : n % 256 ^ (p + 1) / 256 ^ p = n / 256 ^ p % 256 := by
      rw [Nat.pow_succ, Nat.mod_mul_right_div_self]
    have h3 : n % 256 ^ (p + 1) % 256 ^ p = n % 256 ^ p := Nat.mod_mod_of_dvd _ (Nat.pow_dvd_pow 256 (by omega))
    rw [h2, h3] at h1
    rw [Nat.mul_comm]; omega

theorem lt_pow_blen (n : Nat) : n < 256 ^ blen n := by
  have e : (256 : Nat) ^ blen n = 2 ^ (8 * blen n) := by rw [Nat.pow_mul]
  rw [e]
  unfold blen bl
  split
  · omega
  · rename_i h
    have h1 := Nat.lt_log2_self (n := n)
    refine Nat.lt_of_lt_of_le h1 (Nat.pow_le_pow_right (by omega) (by omega))
theorem pow_blen_le {n : Nat} (h : n ≠ 0) : 256 ^ (blen n - 1) ≤ n := by
  have e : (256 : Nat) ^ (blen n - 1) = 2 ^ (8 * (blen n - 1)) := by rw [Nat.pow_mul]
  rw [e]
  unfold blen bl
  rw [if_neg h]
  refine Nat.le_trans (Nat.pow_le_pow_right (by omega) ?_) (Nat.log2_self_le h)
  omega
theorem bev_numB (n : Nat) : bev (numB n) = n := by rw [numB, bev_be, Nat.mod_eq_of_lt (lt_pow_blen n)]
theorem strict_numB (n : Nat) : strictR (numB n) = (n, 0) := by
  have hb := bev_numB n
  have hp := fun h => pow_blen_le (n := n) h
  have hl : (numB n).length = blen n := by rw [numB, be_length]
  cases hn : blen n with
  | zero =>
    have h0 := lt_pow_blen n
    rw [hn] at h0
    have : n = 0 := by omega
    subst this
    rfl
  | succ q =>
    have e : numB n = ((n / 256 ^ q % 256 : Nat) : Int) :: be n q := by rw [numB, hn, be]
    have hne : n ≠ 0 := fun h => by subst h; simp [blen, bl] at hn
    have h1 := hp hne
    rw [hn, Nat.add_sub_cancel] at h1
    have h2 := lt_pow_blen n
    rw [hn, Nat.pow_succ, Nat.mul_comm] at h2
    have h3 : 0 < 256 ^ q := Nat.pow_pos (by omega)
    have h4 : 1 ≤ n / 256 ^ q := (Nat.le_div_iff_mul_le h3).2 (by omega)
    have h5 : n / 256 ^ q < 256 := (Nat.div_lt_iff_lt_mul h3).2 (by rw [Nat.mul_comm]; omega)
    rw [e] at hb ⊢
    rw [strictR, if_neg (by omega), hb]
theorem num_numIt {n m : Nat} (h : n < 256 ^ m) : (numIt n).num m = (n, 0) := by
  have hk : (numIt n).ke false = 0 := rfl
  have hl : ¬ m < (numB n).length := by
    rw [numB, be_length]
    intro hlt
    by_cases h0 : n = 0
    · subst h0; simp [blen, bl] at hlt
    · have h1 := pow_blen_le h0
      have h2 : 256 ^ m ≤ 256 ^ (blen n - 1) := Nat.pow_le_pow_right (by omega) (by omega)
      omega
  show numR m ((numIt n).ke false) (numB n) = _
  rw [hk, numR, if_pos rfl, if_neg hl, strict_numB, if_pos rfl]

/-! ### Lists come back -/
theorem getFixed_txt {n : Nat} {d : List Int} (h : d.length = n) : (It.txt d).getFixed n = (d, 0) := by
  show fixR n 0 d = _
  rw [fixR, if_pos rfl, if_pos h]
theorem getList_lst (its : List It) : (It.lst its).getList = (strips its, 0) := rfl
theorem keysOf_ks : ∀ {ks : List (List Int)}, (∀ w ∈ ks, w.length = 32) → keysOf (ksIts ks) = some ks
  | [], _ => rfl
  | k :: ks, h => by
    have h1 := keysOf_ks (ks := ks) fun w hw => h w (by simp [hw])
    have h2 := getFixed_txt (h k (by simp))
    show keysOf (It.txt k :: ksIts ks) = _
    rw [keysOf, h2, h1]; rfl
theorem entOf_ent {a : List Int} {ks : List (List Int)} (ha : a.length = 20) (hk : ∀ w ∈ ks, w.length = 32) : entOf (entIt a ks) = some (a, ks) := by
  have h1 : (entIt a ks).getList = ([It.txt a, It.lst (ksIts ks)], 0) := by
    rw [entIt, getList_lst, strips, strips, strips, strip_txt, strip_lst, strips_ks]
  have h2 : (It.lst (ksIts ks)).getList = (ksIts ks, 0) := by rw [getList_lst, strips_ks]
  rw [entOf, h1, if_pos rfl, entXY, getFixed_txt ha, if_pos rfl, entKs, h2, if_pos rfl, keysOf_ks hk]; rfl
def Ent.bare (e : Ent) : Ent := ⟨e.a, e.ks, []⟩
theorem entsOf_es : ∀ {es : List Ent}, (∀ e ∈ es, e.a.length = 20 ∧ ∀ w ∈ e.ks, w.length = 32) → entsOf (esIts es) = some (es.map Ent.bare)
  | [], _ => rfl
  | e :: es, h => by
    have h1 := entsOf_es (es := es) fun w hw => h w (by simp [hw])
    have h2 := h e (by simp)
    show entsOf (e.it :: esIts es) = _
    rw [entsOf, Ent.it, entOf_ent h2.1 h2.2, h1]; rfl
theorem parse_back {es : List Ent} (h : ∀ e ∈ es, e.a.length = 20 ∧ ∀ w ∈ e.ks, w.length = 32) : parseOf (It.lst (esIts es)) = some (es.map Ent.bare) := by
  rw [parseOf, getList_lst, if_pos rfl, strips_es, entsOf_es h]
theorem core_bare (es : List Ent) : (es.map Ent.bare).map Ent.core = es.map Ent.core := by rw [List.map_map]; rfl

theorem authOf_it {u : Au} (h : u.ok) (hp : u.pa ≤ 255) : authOf u.it = some u := by
  obtain ⟨h1, h2, h3, h4, h5, h6⟩ := h
  have e1 : u.it.getList = (u.parts, 0) := rfl
  rw [authOf, e1, if_pos rfl, Au.parts, auOf, num_numIt (m := 32) h1, getFixed_txt h2, num_numIt (m := 8) h3, num_numIt (m := 8) h4, num_numIt (m := 32) h5, num_numIt (m := 32) h6]
  simp only [if_pos, hp, and_self]
theorem ausOf_us : ∀ {us : List Au}, (∀ u ∈ us, u.ok) → wideU us = false → ausOf (usIts us) = some us
  | [], _, _ => rfl
  | u :: us, h, hw => by
    rw [wideU, List.any_cons, Bool.or_eq_false_iff, decide_eq_false_iff_not] at hw
    have h1 := ausOf_us (us := us) (fun w hw => h w (by simp [hw])) hw.2
    show ausOf (u.it :: usIts us) = _
    rw [ausOf, authOf_it (h u (by simp)) (by omega), h1]; rfl
theorem parseA_back {us : List Au} (h : ∀ u ∈ us, u.ok) (hw : wideU us = false) : parseAOf (It.lst (usIts us)) = some us := by
  rw [parseAOf, getList_lst, if_pos rfl, strips_us, ausOf_us h hw]

/-! ### The error is 2 or none -/
theorem okSs_of : ∀ {its : List It}, (∀ x ∈ its, okS x = true) → okSs its = true
  | [], _ => rfl
  | x :: xs, h => by rw [okSs, h x (by simp), okSs_of fun y hy => h y (by simp [hy])]; rfl
theorem depths_of {m : Nat} : ∀ {its : List It}, (∀ x ∈ its, dep x ≤ m) → depths its ≤ m
  | [], _ => Nat.zero_le _
  | x :: xs, h => by
    have h1 := h x (by simp)
    have h2 := depths_of (its := xs) fun y hy => h y (by simp [hy])
    rw [depths]; omega
theorem errOf_two {it : It} (h1 : okS it = true) (h2 : dep it ≤ 1024) : errOf it = 0 ∨ errOf it = 2 := by
  rw [errOf, if_pos h1, if_neg (by omega)]
  split
  · exact .inr rfl
  · exact .inl rfl
theorem okS_lst {its : List It} (h : ∀ x ∈ its, okS x = true) : okS (It.lst its) = true := by rw [It.lst, okS, okSs_of h]; rfl
theorem dep_lst {m : Nat} {its : List It} (h : ∀ x ∈ its, dep x ≤ m) : dep (It.lst its) ≤ m + 1 := by
  rw [It.lst, dep]; have := depths_of h; omega
theorem txt_ok (d : List Int) : okS (It.txt d) = true := rfl
theorem txt_dep (d : List Int) : dep (It.txt d) = 0 := rfl
theorem es_err (es : List Ent) : errOf (It.lst (esIts es)) = 0 ∨ errOf (It.lst (esIts es)) = 2 := by
  have hk : ∀ (ks : List (List Int)), ∀ x ∈ ksIts ks, okS x = true ∧ dep x = 0 := fun ks x hx => by
    rw [ksIts, List.mem_map] at hx
    obtain ⟨k, _, rfl⟩ := hx
    exact ⟨rfl, rfl⟩
  have he : ∀ (e : Ent), okS e.it = true ∧ dep e.it ≤ 2 := fun e => by
    refine ⟨okS_lst fun x hx => ?_, dep_lst fun x hx => ?_⟩
    · simp only [List.mem_cons, List.not_mem_nil, or_false] at hx
      rcases hx with rfl | rfl
      · rfl
      · exact okS_lst fun y hy => (hk _ y hy).1
    · simp only [List.mem_cons, List.not_mem_nil, or_false] at hx
      rcases hx with rfl | rfl
      · exact Nat.zero_le _
      · exact dep_lst fun y hy => Nat.le_of_eq (hk _ y hy).2
  refine errOf_two (okS_lst fun x hx => ?_) (Nat.le_trans (dep_lst (m := 2) fun x hx => ?_) (by omega))
  · rw [esIts, List.mem_map] at hx; obtain ⟨e, _, rfl⟩ := hx; exact (he e).1
  · rw [esIts, List.mem_map] at hx; obtain ⟨e, _, rfl⟩ := hx; exact (he e).2
theorem us_err (us : List Au) : errOf (It.lst (usIts us)) = 0 ∨ errOf (It.lst (usIts us)) = 2 := by
  have he : ∀ (u : Au), okS u.it = true ∧ dep u.it ≤ 1 := fun u => by
    refine ⟨rfl, dep_lst (m := 0) fun x hx => ?_⟩
    simp only [Au.parts, numIt, List.mem_cons, List.not_mem_nil, or_false] at hx
    rcases hx with rfl | rfl | rfl | rfl | rfl | rfl <;> exact Nat.le_refl _
  refine errOf_two (okS_lst fun x hx => ?_) (Nat.le_trans (dep_lst (m := 1) fun x hx => ?_) (by omega))
  · rw [usIts, List.mem_map] at hx; obtain ⟨e, _, rfl⟩ := hx; exact (he e).1
  · rw [usIts, List.mem_map] at hx; obtain ⟨e, _, rfl⟩ := hx; exact (he e).2

/-! ### All bytes are in their range -/
theorem numB_byt (n : Nat) : bytesOk (numB n) := be_range n _
theorem us_byt {us : List Au} (h : ∀ u ∈ us, bytesOk u.a) : (It.lst (usIts us)).byt := by
  refine ⟨fun b hb => (by cases hb), byts_of fun x hx => ?_⟩
  rw [usIts, List.mem_map] at hx
  obtain ⟨u, hu, rfl⟩ := hx
  refine ⟨fun b hb => (by cases hb), byts_of fun y hy => ?_⟩
  simp only [Au.parts, numIt, List.mem_cons, List.not_mem_nil, or_false] at hy
  rcases hy with rfl | rfl | rfl | rfl | rfl | rfl
  · exact ⟨numB_byt _, trivial⟩
  · exact ⟨h u hu, trivial⟩
  · exact ⟨numB_byt _, trivial⟩
  · exact ⟨numB_byt _, trivial⟩
  · exact ⟨numB_byt _, trivial⟩
  · exact ⟨numB_byt _, trivial⟩
end Go.Eng
