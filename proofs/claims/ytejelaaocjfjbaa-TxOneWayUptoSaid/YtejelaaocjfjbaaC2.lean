/-
  rlp.Decode. Conditions: bytes in their range, at most 2^40 of them.
-/
import Derived.Test.YtejelaaocjfjbaaCA
namespace Go.Eng
open Go Go.Proofs
set_option maxRecDepth 100000
set_option maxHeartbeats 8000000
set_option linter.unusedVariables false

/-- What stands at a label: the bytes, the stack's rows, the item's row, the error; what goes on falling. -/
structure DQ where
  lab : Nat
  B : List (List PS)
  sb : List (List PS)
  X : List (List PS)
  l : Bool
  D : List (List PS)
  sd : List (List PS)
  I : List (List PS)
  ss : List (List PS)
  e : Int
  m : Nat

def dqGood (R : Except Int It) (q : DQ) : Prop :=
  (q.lab = 0 ∧ R = .error q.e ∧ q.m = 0) ∨
  (q.lab = 1 ∧ ∃ (S : List Opn) (b : List Int), q.B = b.map b8 ∧ bytesOk b ∧ (∀ z ∈ q.sb, rlen z = 1) ∧ q.X = rowsS S ∧ (∀ o ∈ S, o.ok) ∧ left b S + held S ≤ 16777216 ∧ cItem S b = R ∧ q.m = 6 * left b S + 2 * S.length + 1) ∨
  (q.lab = 2 ∧ ∃ (S : List Opn) (b : List Int) (it : It), q.B = b.map b8 ∧ bytesOk b ∧ (∀ z ∈ q.sb, rlen z = 1) ∧ q.X = rowsS S ∧ (∀ o ∈ S, o.ok) ∧ it.row = [.c (.v (.bool q.l)), .c (.sl q.D q.sd), .c (.sl q.I q.ss)] ∧ left b S + held S + 1 ≤ 16777216 ∧ cEnd S it b = R ∧ q.m = 6 * left b S + 2 * S.length + 2) ∨
  (q.lab = 3 ∧ ∃ (o : Opn) (S : List Opn) (b : List Int), q.B = b.map b8 ∧ bytesOk b ∧ (∀ z ∈ q.sb, rlen z = 1) ∧ q.X = rowsS (o :: S) ∧ (∀ o' ∈ o :: S, o'.ok) ∧ left b (o :: S) + held (o :: S) ≤ 16777216 ∧ cWithin o.its o.bh S b = R ∧ q.m = 6 * left b (o :: S) + 2 * S.length + 4)

def dqSt (q : DQ) : St :=
  match q.lab with
  | 0 => ⟨mk 105 [(2, .s (.ptr 0 0)), (3, .s (.lit .i64 0)), (9, pint q.e)], [.box [.c (.bl false), .c .nil, .c .nil]]⟩
  | _ => ⟨mk 105 [(0, .s (.p (.sl q.B q.sb))), (2, .s (.ptr 0 0)), (3, .s (.lit .i64 0)), (4, .s (.own 2)), (5, .s (.ptr 1 0))], [.box [.c (.bl false), .c .nil, .c .nil], .box [.c (.p (.v (.bool q.l))), .c (.p (.sl q.D q.sd)), .c (.p (.sl q.I q.ss))], .nest q.X 89 2 48 none]⟩

def decK (R : Except Int It) (k : List PR → Prop) : Prop :=
  match R with
  | .ok it => k [.a it.row, .s (.v (.int .i64 0))]
  | .error e => k [.a It.zero.row, .s (.v (.int .i64 e))]

theorem decode_sound : Sound Try.prog 25 fun args k => ∃ (d : List Int) (sd : List (List PS)), args = [.s (.sl (d.map b8) sd)] ∧ bytesOk d ∧ d.length ≤ 2 ^ 40 ∧ (∀ z ∈ sd, rlen z = 1) ∧ decK (decR d) k := by
  refine Sound.of_body tt_ok ent_ok Try.func25 rfl ?_
  rintro ar har Γ hΓ args k ⟨d, sd, hargs, hok, hl, hsd, hk⟩
  obtain ⟨B0, hB0⟩ : ∃ D, D = d.map b8 := ⟨_, rfl⟩
  obtain ⟨R, hR⟩ : ∃ R, R = decR d := ⟨_, rfl⟩
  have hB0l : ar.len B0 = (d.length : Int) := by rw [lenIs har, hB0, List.length_map]
  rw [← hB0] at hargs
  rw [← hR] at hk
  subst hargs
  conv => cbv
  refine ⟨{ q : DQ // dqGood R q }, fun q => q.1.lab, fun q => dqSt q.1, fun q => q.1.m, [], [.settle 2, .fbx 1], _, rfl, ?_, ?_⟩
  · conv => cbv
    refine ⟨fun h => ?_, fun h => ?_⟩
    · have g := cGt har (a := ar.len B0) (b := 16777216) h
      have hR2 : R = .error 2 := by rw [hR, decR, if_pos (by omega)]
      conv => cbv
      refine ⟨⟨⟨0, [], [], [], false, [], [], [], [], 2, 0⟩, .inl ⟨rfl, hR2, rfl⟩⟩, rfl, ?_⟩
      conv => cbv
      simp
    have g := cNgt har (a := ar.len B0) (b := 16777216) h
    have hc : cItem [] d = R := by rw [hR, decR, if_neg (by omega)]
    have hB := hB0
    have hsb := hsd
    have dok := hok
    have hX : ([] : List (List PS)) = rowsS [] := rfl
    have hS : ∀ o ∈ ([] : List Opn), o.ok := by simp
    have hcnt : left d [] + held [] ≤ 16777216 := by simp only [left, held, List.map_nil, List.sum_nil]; omega
    conv => cbv
    refine ⟨[.nest 4 89], _, rfl, ?_⟩
    conv => cbv
    obtain ⟨L, hL⟩ : ∃ x, x = (cutR d).1 := ⟨_, rfl⟩
    obtain ⟨p, hp⟩ : ∃ x, x = (cutR d).2.1 := ⟨_, rfl⟩
    obtain ⟨r, hr⟩ : ∃ x, x = (cutR d).2.2.1 := ⟨_, rfl⟩
    obtain ⟨E, hE⟩ : ∃ x, x = (cutR d).2.2.2 := ⟨_, rfl⟩
    obtain ⟨P, hP⟩ : ∃ x, x = p.map b8 := ⟨_, rfl⟩
    obtain ⟨Q, hQ⟩ : ∃ x, x = r.map b8 := ⟨_, rfl⟩
    have hsub := cutR_sub (P := fun x : Int => 0 ≤ x ∧ x < 256) dok
    rw [← hp, ← hr] at hsub
    obtain ⟨hpok, hrok⟩ := hsub
    have hlen : E = 0 → r.length < d.length ∧ p.length ≤ d.length ∧ (L = true → p.length + r.length < d.length) := fun h => by
      have := cutR_len (d := d) (by rw [← hE]; exact h)
      rw [← hr, ← hp, ← hL] at this
      exact this
    have hItem : cItem ([] : List Opn) d = if E = 0 then (if L = true then (if ([] : List Opn).length = 1024 then .error 74 else cWithin [] r ([] : List Opn) p) else cEnd ([] : List Opn) (.txt p) r) else .error E := by
      unfold cItem
      rw [← hL, ← hp, ← hr, ← hE]
    have callCut : ∀ (Γ : Ctx) (d' : Nat) (k : List PR → Prop) (R : Prop), Γ = ctx Try.prog d' → (∀ sp sr : List (List PS), (∀ z ∈ sp, rlen z = 1) → (∀ z ∈ sr, rlen z = 1) → k [.s (.v (.bool L)), .s (.sl P sp), .s (.sl Q sr), .s (.v (.int .i64 E))]) → Γ.g 39 [.s (.sl B0 sd)] k ∨ R := fun Γ d' k R hΓ hk => call_by hΓ cut_sound ⟨d, sd, by rw [hB], dok, by omega, hsb, by rw [← hL, ← hp, ← hr, ← hE, ← hP, ← hQ]; exact hk⟩
    have A1 := left_eq d ([] : List Opn)
    have A2 := left_eq r ([] : List Opn)
    have A3 : ∀ sr : List (List PS), left p ((⟨[], r, sr⟩ : Opn) :: ([] : List Opn)) = p.length + r.length + left [] ([] : List Opn) := fun sr => left_cons p _ ([] : List Opn)
    have A4 : ∀ sr : List (List PS), held ((⟨[], r, sr⟩ : Opn) :: ([] : List Opn)) = 0 + 1 + held ([] : List Opn) := fun sr => held_cons _ ([] : List Opn)
    have hXl : ar.len ([] : List (List PS)) = (([] : List Opn).length : Int) := by rw [lenIs har, hX, rowsS_length]
    refine callCut _ _ _ _ hΓ fun sp sr hsp hsr => ?_
    conv => cbv
    refine ⟨fun h => ?_, fun h => ?_⟩
    · have g := cNe har (a := E) (b := 0) h
      have hRE : R = .error E := by rw [← hc, hItem, if_neg g]
      conv => cbv
      refine ⟨⟨⟨0, [], [], [], false, [], [], [], [], E, 0⟩, .inl ⟨rfl, hRE, rfl⟩⟩, rfl, ?_⟩
      conv => cbv
      simp
    have g := cNne har (a := E) (b := 0) h
    obtain ⟨hl1, hl2, hl3⟩ := hlen g
    rw [if_pos g] at hItem
    conv => cbv
    refine ⟨fun h => ?_, fun h => ?_⟩
    · have g2 := nbT har h
      have hRT : cEnd ([] : List Opn) (.txt p) r = R := by rw [← hc, hItem, g2]; rfl
      have hrow : (It.txt p).row = [.c (.v (.bool false)), .c (.sl P []), .c (.sl [] [])] := by rw [hP]; rfl
      have callT : ∀ (Γ : Ctx) (d' : Nat) (k : List PR → Prop) (R : Prop), Γ = ctx Try.prog d' → k [.a [.c (.v (.bool false)), .c (.sl P []), .c (.sl [] [])]] → Γ.g 40 [.s (.sl P sp)] k ∨ R := fun Γ d' k R hΓ hk => call_by hΓ text_sound ⟨p, sp, by rw [hP], by omega, by rw [hrow]; exact hk⟩
      conv => cbv
      refine callT _ _ _ _ hΓ ?_
      conv => cbv
      refine ⟨⟨⟨2, Q, sr, ([] : List (List PS)), false, P, [], [], [], 0, 6 * left r ([] : List Opn) + 2 * ([] : List Opn).length + 2⟩, .inr (.inr (.inl ⟨rfl, ([] : List Opn), r, .txt p, hQ, hrok, hsr, hX, hS, hrow, by omega, hRT, rfl⟩))⟩, rfl, ?_⟩
      conv => cbv
      simp
    · have g2 := nbF har h
      rw [if_pos g2] at hItem
      have hl3 := hl3 g2
      conv => cbv
      refine ⟨fun h => ?_, fun h => ?_⟩
      · have g3 := cEq har (a := ar.len ([] : List (List PS))) (b := 1024) h
        have hRE : R = .error 74 := by rw [← hc, hItem, if_pos (by omega)]
        conv => cbv
        refine ⟨⟨⟨0, [], [], [], false, [], [], [], [], 74, 0⟩, .inl ⟨rfl, hRE, rfl⟩⟩, rfl, ?_⟩
        conv => cbv
        simp
      · have g3 := cNeq har (a := ar.len ([] : List (List PS))) (b := 1024) h
        have hRW : cWithin [] r ([] : List Opn) p = R := by rw [← hc, hItem, if_neg (by omega)]
        have hap : (ar.app ([] : List (List PS)) [[.c (.ow [] 63 3 56), .c (.sl Q sr)]]) = rowsS ((⟨[], r, sr⟩ : Opn) :: ([] : List Opn)) := by rw [appIs har, rowsS_cons, hX, hQ]; rfl
        have hXn : ([] : List (List PS)).length = ([] : List Opn).length := by rw [hX, rowsS_length]
        have hbnd : (([] : List (List PS)).length + 1) * 48 ≤ 140737488355328 := by
          have := held_le ([] : List Opn)
          omega
        conv => cbv
        refine ⟨fun _ => ⟨Nat.zero_lt_one, hbnd, fun y hy => by rw [List.mem_singleton] at hy; subst hy; rfl⟩, ?_⟩
        refine ⟨⟨⟨3, P, sp, ar.app ([] : List (List PS)) [[.c (.ow [] 63 3 56), .c (.sl Q sr)]], true, [], [], [], [], 0, 6 * (p.length + r.length + left [] ([] : List Opn)) + 2 * ([] : List Opn).length + 4⟩, .inr (.inr (.inr ⟨rfl, ⟨[], r, sr⟩, ([] : List Opn), p, hP, hpok, hsp, hap, fun o ho => by rcases List.mem_cons.1 ho with rfl | ho; exact ⟨hrok, hsr⟩; exact hS o ho, by rw [A3, A4]; omega, hRW, by rw [A3]⟩))⟩, rfl, ?_⟩
        conv => cbv
        simp
  · rintro ⟨⟨lab, B, sb, X, l, D, sdd, I, ss, e, m⟩, hq⟩
    rcases hq with ⟨h1, hRe, hm⟩ | ⟨h1, S, b, hB, bok, hsb, hX, hS, hcnt, hc, hm⟩ | ⟨h1, S, b, it, hB, bok, hsb, hX, hS, hrw, hcnt, hc, hm⟩ | ⟨h1, o, S, b, hB, bok, hsb, hX, hS, hcnt, hc, hm⟩
    · dsimp only at h1 hRe hm
      subst h1
      conv => cbv
      rw [hRe] at hk
      exact hk
    · dsimp only at h1 hB bok hsb hX hS hcnt hc hm
      subst h1
      have hbl : b.length ≤ 16777216 := by have := left_eq b S; omega
      conv => cbv
      obtain ⟨L, hL⟩ : ∃ x, x = (cutR b).1 := ⟨_, rfl⟩
      obtain ⟨p, hp⟩ : ∃ x, x = (cutR b).2.1 := ⟨_, rfl⟩
      obtain ⟨r, hr⟩ : ∃ x, x = (cutR b).2.2.1 := ⟨_, rfl⟩
      obtain ⟨E, hE⟩ : ∃ x, x = (cutR b).2.2.2 := ⟨_, rfl⟩
      obtain ⟨P, hP⟩ : ∃ x, x = p.map b8 := ⟨_, rfl⟩
      obtain ⟨Q, hQ⟩ : ∃ x, x = r.map b8 := ⟨_, rfl⟩
      have hsub := cutR_sub (P := fun x : Int => 0 ≤ x ∧ x < 256) bok
      rw [← hp, ← hr] at hsub
      obtain ⟨hpok, hrok⟩ := hsub
      have hlen : E = 0 → r.length < b.length ∧ p.length ≤ b.length ∧ (L = true → p.length + r.length < b.length) := fun h => by
        have := cutR_len (d := b) (by rw [← hE]; exact h)
        rw [← hr, ← hp, ← hL] at this
        exact this
      have hItem : cItem S b = if E = 0 then (if L = true then (if S.length = 1024 then .error 74 else cWithin [] r S p) else cEnd S (.txt p) r) else .error E := by
        unfold cItem
        rw [← hL, ← hp, ← hr, ← hE]
      have callCut : ∀ (Γ : Ctx) (d' : Nat) (k : List PR → Prop) (R : Prop), Γ = ctx Try.prog d' → (∀ sp sr : List (List PS), (∀ z ∈ sp, rlen z = 1) → (∀ z ∈ sr, rlen z = 1) → k [.s (.v (.bool L)), .s (.sl P sp), .s (.sl Q sr), .s (.v (.int .i64 E))]) → Γ.g 39 [.s (.sl B sb)] k ∨ R := fun Γ d' k R hΓ hk => call_by hΓ cut_sound ⟨b, sb, by rw [hB], bok, by omega, hsb, by rw [← hL, ← hp, ← hr, ← hE, ← hP, ← hQ]; exact hk⟩
      have A1 := left_eq b S
      have A2 := left_eq r S
      have A3 : ∀ sr : List (List PS), left p ((⟨[], r, sr⟩ : Opn) :: S) = p.length + r.length + left [] S := fun sr => left_cons p _ S
      have A4 : ∀ sr : List (List PS), held ((⟨[], r, sr⟩ : Opn) :: S) = 0 + 1 + held S := fun sr => held_cons _ S
      have hXl : ar.len X = (S.length : Int) := by rw [lenIs har, hX, rowsS_length]
      refine callCut _ _ _ _ hΓ fun sp sr hsp hsr => ?_
      conv => cbv
      refine ⟨fun h => ?_, fun h => ?_⟩
      · have g := cNe har (a := E) (b := 0) h
        have hRE : R = .error E := by rw [← hc, hItem, if_neg g]
        conv => cbv
        refine ⟨⟨⟨0, [], [], [], false, [], [], [], [], E, 0⟩, .inl ⟨rfl, hRE, rfl⟩⟩, rfl, ?_, ?_⟩
        · conv => cbv
          simp
        · show (0 : Nat) < m
          rw [hm]; omega
      have g := cNne har (a := E) (b := 0) h
      obtain ⟨hl1, hl2, hl3⟩ := hlen g
      rw [if_pos g] at hItem
      conv => cbv
      refine ⟨fun h => ?_, fun h => ?_⟩
      · have g2 := nbT har h
        have hRT : cEnd S (.txt p) r = R := by rw [← hc, hItem, g2]; rfl
        have hrow : (It.txt p).row = [.c (.v (.bool false)), .c (.sl P []), .c (.sl [] [])] := by rw [hP]; rfl
        have callT : ∀ (Γ : Ctx) (d' : Nat) (k : List PR → Prop) (R : Prop), Γ = ctx Try.prog d' → k [.a [.c (.v (.bool false)), .c (.sl P []), .c (.sl [] [])]] → Γ.g 40 [.s (.sl P sp)] k ∨ R := fun Γ d' k R hΓ hk => call_by hΓ text_sound ⟨p, sp, by rw [hP], by omega, by rw [hrow]; exact hk⟩
        conv => cbv
        refine callT _ _ _ _ hΓ ?_
        conv => cbv
        refine ⟨⟨⟨2, Q, sr, X, false, P, [], [], [], 0, 6 * left r S + 2 * S.length + 2⟩, .inr (.inr (.inl ⟨rfl, S, r, .txt p, hQ, hrok, hsr, hX, hS, hrow, by omega, hRT, rfl⟩))⟩, rfl, ?_, ?_⟩
        · conv => cbv
          simp
        · show (6 * left r S + 2 * S.length + 2 : Nat) < m
          rw [hm]; omega
      · have g2 := nbF har h
        rw [if_pos g2] at hItem
        have hl3 := hl3 g2
        conv => cbv
        refine ⟨fun h => ?_, fun h => ?_⟩
        · have g3 := cEq har (a := ar.len X) (b := 1024) h
          have hRE : R = .error 74 := by rw [← hc, hItem, if_pos (by omega)]
          conv => cbv
          refine ⟨⟨⟨0, [], [], [], false, [], [], [], [], 74, 0⟩, .inl ⟨rfl, hRE, rfl⟩⟩, rfl, ?_, ?_⟩
          · conv => cbv
            simp
          · show (0 : Nat) < m
            rw [hm]; omega
        · have g3 := cNeq har (a := ar.len X) (b := 1024) h
          have hRW : cWithin [] r S p = R := by rw [← hc, hItem, if_neg (by omega)]
          have hap : (ar.app X [[.c (.ow [] 63 3 56), .c (.sl Q sr)]]) = rowsS ((⟨[], r, sr⟩ : Opn) :: S) := by rw [appIs har, rowsS_cons, hX, hQ]; rfl
          have hXn : X.length = S.length := by rw [hX, rowsS_length]
          have hbnd : (X.length + 1) * 48 ≤ 140737488355328 := by
            have := held_le S
            omega
          conv => cbv
          refine ⟨fun _ => ⟨Nat.zero_lt_one, hbnd, fun y hy => by rw [List.mem_singleton] at hy; subst hy; rfl⟩, ?_⟩
          refine ⟨⟨⟨3, P, sp, ar.app X [[.c (.ow [] 63 3 56), .c (.sl Q sr)]], true, [], [], [], [], 0, 6 * (p.length + r.length + left [] S) + 2 * S.length + 4⟩, .inr (.inr (.inr ⟨rfl, ⟨[], r, sr⟩, S, p, hP, hpok, hsp, hap, fun o ho => by rcases List.mem_cons.1 ho with rfl | ho; exact ⟨hrok, hsr⟩; exact hS o ho, by rw [A3, A4]; omega, hRW, by rw [A3]⟩))⟩, rfl, ?_, ?_⟩
          · conv => cbv
            simp
          · show (6 * (p.length + r.length + left [] S) + 2 * S.length + 4 : Nat) < m
            rw [hm]; omega
    · dsimp only at h1 hB bok hsb hX hS hrw hcnt hc hm
      subst h1
      have hbl : b.length ≤ 16777216 := by have := left_eq b S; omega
      have hBl : ar.len B = (b.length : Int) := by rw [lenIs har, hB, List.length_map]
      have hXl : ar.len X = (S.length : Int) := by rw [lenIs har, hX, rowsS_length]
      conv => cbv
      refine ⟨fun h => ?_, fun h => ?_⟩
      · have g := cEq har (a := ar.len X) (b := 0) h
        have hS0 : S = [] := List.eq_nil_of_length_eq_zero (by omega)
        subst hS0
        conv => cbv
        refine ⟨fun h => ?_, fun h => ?_⟩
        · have g2 := cGt har (a := ar.len B) (b := 0) h
          have hRE : R = .error 73 := by rw [← hc, cEnd, if_neg (fun e => by rw [e, List.length_nil] at hBl; omega)]
          conv => cbv
          refine ⟨⟨⟨0, [], [], [], false, [], [], [], [], 73, 0⟩, .inl ⟨rfl, hRE, rfl⟩⟩, rfl, ?_, ?_⟩
          · conv => cbv
            simp
          · show (0 : Nat) < m
            omega
        · have g2 := cNgt har (a := ar.len B) (b := 0) h
          have hRE : R = .ok it := by rw [← hc, cEnd, if_pos (List.eq_nil_of_length_eq_zero (by omega))]
          rw [hRE] at hk
          have hk : k [.a it.row, .s (.v (.int .i64 0))] := hk
          rw [hrw] at hk
          conv => cbv
          exact hk
      have g := cNeq har (a := ar.len X) (b := 0) h
      cases S with
      | nil => exact absurd hXl (by rw [List.length_nil]; omega)
      | cons o S =>
      have hSl : S.length ≤ 2 ^ 30 := by have := held_le (o :: S); rw [List.length_cons] at this; omega
      obtain ⟨I1, hI1⟩ : ∃ x, x = rowsOf o.its := ⟨_, rfl⟩
      obtain ⟨BH, hBH⟩ : ∃ x, x = o.bh.map b8 := ⟨_, rfl⟩
      obtain ⟨sb2, hsb2⟩ : ∃ x, x = o.sb := ⟨_, rfl⟩
      have hrowX : o.row = [.c (.ow I1 63 3 56), .c (.sl BH sb2)] := by rw [hI1, hBH, hsb2]; rfl
      have hI1n : I1.length = o.its.length := by rw [hI1, rowsOf_length]
      have hI1l : ar.nat (ar.len I1) = I1.length := by rw [lenIs har]; exact natOf har rfl
      have hcu := held_cons o S
      have hlu := left_cons b o S
      have hbnd : ∀ r : List PS, rlen r = 3 → (I1.length + 1) * 56 ≤ 140737488355328 ∧ ∀ y ∈ [r], rlen y = 3 := fun r hr => by
        refine ⟨by omega, fun y hy => ?_⟩
        rw [List.mem_singleton] at hy; subst hy; exact hr
      have hitl : rlen [PS.c (.v (.bool l)), .c (.sl D sdd), .c (.sl I ss)] = 3 := rfl
      have hsI : ∀ r : List PS, (0 : Int) ≤ ar.len I1 ∧ ar.len I1 < ((ar.app I1 [r]).length : Int) := fun r => by
        rw [lenIs har, appIs har, List.length_append, List.length_singleton]; omega
      have hsI2 : ∀ r : List PS, ar.nat (ar.len I1) < (ar.app I1 [r]).length ∧ rlen [PS.c (.v (.bool l)), .c (.sl D sdd), .c (.sl I ss)] = 3 := fun r => by
        rw [hI1l, appIs har, List.length_append, List.length_singleton]; exact ⟨by omega, rfl⟩
      obtain ⟨o2, ho2⟩ : ∃ o2 : Opn, o2 = ⟨o.its ++ [it], o.bh, o.sb⟩ := ⟨_, rfl⟩
      have hI2 : rowsOf o2.its = I1 ++ [[.c (.v (.bool l)), .c (.sl D sdd), .c (.sl I ss)]] := by rw [ho2, hI1, rowsOf_append, rowsOf, rowsOf, hrw]
      have hIA : ∀ r : List PS, ar.setx (ar.app I1 [r]) (ar.nat (ar.len I1)) [.c (.v (.bool l)), .c (.sl D sdd), .c (.sl I ss)] = rowsOf o2.its := fun r => by
        rw [hI2, hI1l, setxIs har, appIs har, List.set_append_right _ _ (Nat.le_refl _), Nat.sub_self]; rfl
      have hIB : ar.app I1 [[.c (.v (.bool l)), .c (.sl D sdd), .c (.sl I ss)]] = rowsOf o2.its := by rw [hI2, appIs har]
      have ho2r : ∀ J, J = rowsOf o2.its → o2.row = [.c (.ow J 63 3 56), .c (.sl BH sb2)] := fun J hJ => by rw [hJ, hBH, hsb2, ho2]; rfl
      have hcu2 : held (o2 :: S) = held (o :: S) + 1 := by rw [held_cons, held_cons, ho2, List.length_append, List.length_singleton]; omega
      have hlu2 : left b (o2 :: S) = left b (o :: S) := by rw [left_cons, left_cons, ho2]
      have hcW : cWithin o2.its o2.bh S b = R := by rw [← hc, cEnd_cons, ho2]
      have hlu3 := left_cons b o2 S
      have hcu3 := held_cons o2 S
      have hoo := hS o (by simp)
      have hS2 : ∀ o' ∈ o2 :: S, o'.ok := fun o' ho' => by
        rcases List.mem_cons.1 ho' with rfl | ho'
        · rw [ho2]; exact hoo
        · exact hS o' (by simp [ho'])
      have hbh2 : o2.bh = o.bh := by rw [ho2]
      rw [List.length_cons] at hm
      conv => cbv
      refine ⟨Bool, fun c => ⟨mk 105 [(0, .s (.p (.sl B sb))), (2, .s (.ptr 0 0)), (3, .s (.lit .i64 0)), (4, .s (.own 2)), (5, .s (.ptr 1 0)), (45, .s (.bl c))], [.box [.c (.bl false), .c .nil, .c .nil], .box [.c (.p (.v (.bool l))), .c (.p (.sl D sdd)), .c (.p (.sl I ss))], .nest X 89 2 48 none]⟩, ?_, fun c => ?_⟩
      · conv => cbv
        refine ⟨⟨false, ?_⟩, true, ?_⟩
        · conv => cbv
          simp
        · conv => cbv
          simp
      · cases c with
        | true =>
          conv => cbv
          refine ⟨by rw [har]; kernel_rfl, fun _ => dqB har hX hSl, _, dqGet har hX hSl hrowX, ?_⟩
          conv => cbv
          intro w
          conv => cbv
          refine ⟨fun _ => hbnd _ rfl, ?_⟩
          conv => cbv
          refine ⟨fun _ => dqB2 har hX hSl _, _, dqGet2 har hX hSl _, ?_⟩
          conv => cbv
          intro w2
          conv => cbv
          refine ⟨fun _ => hsI _, fun _ => hsI2 _, ?_⟩
          conv => cbv
          refine ⟨[.settle 2], _, rfl, ?_⟩
          obtain ⟨J, hJ⟩ : ∃ J, ar.setx (ar.app I1 [[PS.c (.v (.bool false)), .c (.sl [] []), .c (.sl [] [])]]) (ar.nat (ar.len I1)) [.c (.v (.bool l)), .c (.sl D sdd), .c (.sl I ss)] = J := ⟨_, rfl⟩
          have hJ2 : J = rowsOf o2.its := by rw [← hJ]; exact hIA _
          obtain ⟨X2, hX2⟩ : ∃ x, ar.setx (ar.setx (ar.setx X (ar.nat (ar.ib .sub .i64 (ar.len X) 1)) [.c (.v w), .c (.sl BH sb2)]) (ar.nat (ar.ib .sub .i64 (ar.len X) 1)) [.c (.v w2), .c (.sl BH sb2)]) (ar.nat (ar.ib .sub .i64 (ar.len X) 1)) [.c (.ow J 63 3 56), .c (.sl BH sb2)] = x := ⟨_, rfl⟩
          have hX2r : X2 = rowsS (o2 :: S) := by rw [← hX2]; exact dqPut har hX hSl (ho2r J hJ2)
          have hr2 := ho2r J hJ2
          conv at hJ => lhs; cbv
          conv at hX2 => lhs; cbv
          conv => cbv
          rw [hJ, hX2]
          refine ⟨fun h => ?_, fun h => ?_⟩
          · have g2 := cGt har (a := ar.len B) (b := 0) h
            have hbne : b ≠ [] := fun e => by rw [e, List.length_nil] at hBl; omega
            have hcI : cItem (o2 :: S) b = R := by rw [← hcW, cWithin_item _ _ hbne]
            conv => cbv
            refine ⟨⟨⟨1, B, sb, X2, l, D, sdd, I, ss, 0, 6 * left b (o2 :: S) + 2 * (o2 :: S).length + 1⟩, .inr (.inl ⟨rfl, o2 :: S, b, hB, bok, hsb, hX2r, hS2, by omega, hcI, rfl⟩)⟩, rfl, ?_, ?_⟩
            · conv => cbv
              simp
            · show (6 * left b (o2 :: S) + 2 * (o2 :: S).length + 1 : Nat) < m
              rw [hm, List.length_cons]; omega
          · have g2 := cNgt har (a := ar.len B) (b := 0) h
            have hbe : b = [] := List.eq_nil_of_length_eq_zero (by omega)
            have hcE : cEnd S (.lst o2.its) o2.bh = R := by rw [← hcW, hbe, cWithin_nil]
            have hlr : (It.lst o2.its).row = [.c (.v (.bool true)), .c (.sl [] []), .c (.sl J [])] := by rw [hJ2]; rfl
            have hA := left_eq o2.bh S
            have hBz : b.length = 0 := by rw [hbe]; rfl
            have hsub : BH = o2.bh.map b8 := by rw [hBH, ho2]
            conv => cbv
            refine ⟨fun _ => dqB har hX2r hSl, _, dqGet har hX2r hSl hr2, ?_⟩
            conv => cbv
            intro w3
            conv => cbv
            refine ⟨fun _ => dqB3 har hX2r hSl _ _, _, dqGet3 har hX2r hSl _, ?_⟩
            conv => cbv
            refine ⟨fun _ => dqB4 har hX2r hSl _ _, ?_⟩
            conv => cbv
            refine ⟨⟨⟨2, BH, sb2, ar.mid (ar.setx X2 (ar.nat (ar.ib .sub .i64 (ar.len X2) 1)) [.c (.v w3), .c (.sl BH sb2)]) 0 (ar.nat (ar.ib .sub .i64 (ar.len (ar.setx X2 (ar.nat (ar.ib .sub .i64 (ar.len X2) 1)) [.c (.v w3), .c (.sl BH sb2)])) 1)), true, [], [], J, [], 0, 6 * left o2.bh S + 2 * S.length + 2⟩, .inr (.inr (.inl ⟨rfl, S, o2.bh, .lst o2.its, hsub, (hS2 o2 (by simp)).1, by rw [hsb2]; exact hoo.2, dqPop har hX2r hSl _, fun o' ho' => hS2 o' (by simp [ho']), hlr, by omega, hcE, rfl⟩))⟩, rfl, ?_, ?_⟩
            · conv => cbv
              simp
            · show (6 * left o2.bh S + 2 * S.length + 2 : Nat) < m
              rw [hm]; omega
        | false =>
          conv => cbv
          refine ⟨by rw [har]; kernel_rfl, fun _ => dqB har hX hSl, _, dqGet har hX hSl hrowX, ?_⟩
          conv => cbv
          intro w
          conv => cbv
          refine ⟨fun _ => hbnd _ hitl, ?_⟩
          conv => cbv
          refine ⟨fun _ => dqB2 har hX hSl _, _, dqGet2 har hX hSl _, ?_⟩
          conv => cbv
          intro w2
          conv => cbv
          refine ⟨[.settle 2], _, rfl, ?_⟩
          obtain ⟨J, hJ⟩ : ∃ J, ar.app I1 [[PS.c (.v (.bool l)), .c (.sl D sdd), .c (.sl I ss)]] = J := ⟨_, rfl⟩
          have hJ2 : J = rowsOf o2.its := by rw [← hJ]; exact hIB
          obtain ⟨X2, hX2⟩ : ∃ x, ar.setx (ar.setx (ar.setx X (ar.nat (ar.ib .sub .i64 (ar.len X) 1)) [.c (.v w), .c (.sl BH sb2)]) (ar.nat (ar.ib .sub .i64 (ar.len X) 1)) [.c (.v w2), .c (.sl BH sb2)]) (ar.nat (ar.ib .sub .i64 (ar.len X) 1)) [.c (.ow J 63 3 56), .c (.sl BH sb2)] = x := ⟨_, rfl⟩
          have hX2r : X2 = rowsS (o2 :: S) := by rw [← hX2]; exact dqPut har hX hSl (ho2r J hJ2)
          have hr2 := ho2r J hJ2
          conv at hJ => lhs; cbv
          conv at hX2 => lhs; cbv
          conv => cbv
          rw [hJ, hX2]
          refine ⟨fun h => ?_, fun h => ?_⟩
          · have g2 := cGt har (a := ar.len B) (b := 0) h
            have hbne : b ≠ [] := fun e => by rw [e, List.length_nil] at hBl; omega
            have hcI : cItem (o2 :: S) b = R := by rw [← hcW, cWithin_item _ _ hbne]
            conv => cbv
            refine ⟨⟨⟨1, B, sb, X2, l, D, sdd, I, ss, 0, 6 * left b (o2 :: S) + 2 * (o2 :: S).length + 1⟩, .inr (.inl ⟨rfl, o2 :: S, b, hB, bok, hsb, hX2r, hS2, by omega, hcI, rfl⟩)⟩, rfl, ?_, ?_⟩
            · conv => cbv
              simp
            · show (6 * left b (o2 :: S) + 2 * (o2 :: S).length + 1 : Nat) < m
              rw [hm, List.length_cons]; omega
          · have g2 := cNgt har (a := ar.len B) (b := 0) h
            have hbe : b = [] := List.eq_nil_of_length_eq_zero (by omega)
            have hcE : cEnd S (.lst o2.its) o2.bh = R := by rw [← hcW, hbe, cWithin_nil]
            have hlr : (It.lst o2.its).row = [.c (.v (.bool true)), .c (.sl [] []), .c (.sl J [])] := by rw [hJ2]; rfl
            have hA := left_eq o2.bh S
            have hBz : b.length = 0 := by rw [hbe]; rfl
            have hsub : BH = o2.bh.map b8 := by rw [hBH, ho2]
            conv => cbv
            refine ⟨fun _ => dqB har hX2r hSl, _, dqGet har hX2r hSl hr2, ?_⟩
            conv => cbv
            intro w3
            conv => cbv
            refine ⟨fun _ => dqB3 har hX2r hSl _ _, _, dqGet3 har hX2r hSl _, ?_⟩
            conv => cbv
            refine ⟨fun _ => dqB4 har hX2r hSl _ _, ?_⟩
            conv => cbv
            refine ⟨⟨⟨2, BH, sb2, ar.mid (ar.setx X2 (ar.nat (ar.ib .sub .i64 (ar.len X2) 1)) [.c (.v w3), .c (.sl BH sb2)]) 0 (ar.nat (ar.ib .sub .i64 (ar.len (ar.setx X2 (ar.nat (ar.ib .sub .i64 (ar.len X2) 1)) [.c (.v w3), .c (.sl BH sb2)])) 1)), true, [], [], J, [], 0, 6 * left o2.bh S + 2 * S.length + 2⟩, .inr (.inr (.inl ⟨rfl, S, o2.bh, .lst o2.its, hsub, (hS2 o2 (by simp)).1, by rw [hsb2]; exact hoo.2, dqPop har hX2r hSl _, fun o' ho' => hS2 o' (by simp [ho']), hlr, by omega, hcE, rfl⟩))⟩, rfl, ?_, ?_⟩
            · conv => cbv
              simp
            · show (6 * left o2.bh S + 2 * S.length + 2 : Nat) < m
              rw [hm]; omega
    · dsimp only at h1 hB bok hsb hX hS hcnt hc hm
      subst h1
      have hcu := held_cons o S
      have hlu := left_cons b o S
      have hcW := hc
      have hbl : b.length ≤ 16777216 := by omega
      have hBl : ar.len B = (b.length : Int) := by rw [lenIs har, hB, List.length_map]
      have hSl : S.length ≤ 2 ^ 30 := by have := held_le (o :: S); rw [List.length_cons] at this; omega
      obtain ⟨I1, hI1⟩ : ∃ x, x = rowsOf o.its := ⟨_, rfl⟩
      obtain ⟨BH, hBH⟩ : ∃ x, x = o.bh.map b8 := ⟨_, rfl⟩
      obtain ⟨sb2, hsb2⟩ : ∃ x, x = o.sb := ⟨_, rfl⟩
      have hrowX : o.row = [.c (.ow I1 63 3 56), .c (.sl BH sb2)] := by rw [hI1, hBH, hsb2]; rfl
      have hoo := hS o (by simp)
      conv => cbv
      refine ⟨fun h => ?_, fun h => ?_⟩
      · have g2 := cGt har (a := ar.len B) (b := 0) h
        have hbne : b ≠ [] := fun e => by rw [e, List.length_nil] at hBl; omega
        have hcI : cItem (o :: S) b = R := by rw [← hcW, cWithin_item _ _ hbne]
        conv => cbv
        refine ⟨⟨⟨1, B, sb, X, l, D, sdd, I, ss, 0, 6 * left b (o :: S) + 2 * (o :: S).length + 1⟩, .inr (.inl ⟨rfl, o :: S, b, hB, bok, hsb, hX, hS, by omega, hcI, rfl⟩)⟩, rfl, ?_, ?_⟩
        · conv => cbv
          simp
        · show (6 * left b (o :: S) + 2 * (o :: S).length + 1 : Nat) < m
          rw [hm, List.length_cons]; omega
      · have g2 := cNgt har (a := ar.len B) (b := 0) h
        have hbe : b = [] := List.eq_nil_of_length_eq_zero (by omega)
        have hcE : cEnd S (.lst o.its) o.bh = R := by rw [← hcW, hbe, cWithin_nil]
        have hlr : (It.lst o.its).row = [.c (.v (.bool true)), .c (.sl [] []), .c (.sl I1 [])] := by rw [hI1]; rfl
        have hA := left_eq o.bh S
        have hBz : b.length = 0 := by rw [hbe]; rfl
        have hsub : BH = o.bh.map b8 := by rw [hBH]
        conv => cbv
        refine ⟨fun _ => dqB har hX hSl, _, dqGet har hX hSl hrowX, ?_⟩
        conv => cbv
        intro w3
        conv => cbv
        refine ⟨fun _ => dqB3 har hX hSl _ _, _, dqGet3 har hX hSl _, ?_⟩
        conv => cbv
        refine ⟨fun _ => dqB4 har hX hSl _ _, ?_⟩
        conv => cbv
        refine ⟨⟨⟨2, BH, sb2, ar.mid (ar.setx X (ar.nat (ar.ib .sub .i64 (ar.len X) 1)) [.c (.v w3), .c (.sl BH sb2)]) 0 (ar.nat (ar.ib .sub .i64 (ar.len (ar.setx X (ar.nat (ar.ib .sub .i64 (ar.len X) 1)) [.c (.v w3), .c (.sl BH sb2)])) 1)), true, [], [], I1, [], 0, 6 * left o.bh S + 2 * S.length + 2⟩, .inr (.inr (.inl ⟨rfl, S, o.bh, .lst o.its, hsub, (hS o (by simp)).1, by rw [hsb2]; exact hoo.2, dqPop har hX hSl _, fun o' ho' => hS o' (by simp [ho']), hlr, by omega, hcE, rfl⟩))⟩, rfl, ?_, ?_⟩
        · conv => cbv
          simp
        · show (6 * left o.bh S + 2 * S.length + 2 : Nat) < m
          rw [hm]; omega
end Go.Eng
