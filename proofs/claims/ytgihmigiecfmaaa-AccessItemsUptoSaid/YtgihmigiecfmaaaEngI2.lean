/-
  Regions that draw their order: which operation may be taken first, and that taking it first is enough.
-/
import Derived.Test.YtgihmigiecfmaaaEngI1
import Derived.OrdersHeld
namespace Go.Eng
open Go Go.RowKit

theorem testBit_maskOf (l : List Nat) (b : Nat) : (maskOf l).testBit b = true ↔ b ∈ l := by
  induction l with
  | nil => simp [maskOf]
  | cons x l ih =>
    simp only [maskOf, Nat.testBit_or, Bool.or_eq_true, ih, List.mem_cons, Nat.one_shiftLeft, Nat.testBit_two_pow, decide_eq_true_eq]
    constructor
    · rintro (h | h)
      · exact .inl h.symm
      · exact .inr h
    · rintro (h | h)
      · exact .inl h.symm
      · exact .inr h

theorem within_spec {a b : Nat} (h : within a b = true) (k : Nat) (hk : a.testBit k = true) : b.testBit k = true := by
  have e : a &&& b = a := eq_of_beq h
  rw [← e, Nat.testBit_and] at hk
  simp at hk
  exact hk.2

theorem within_of {a b : Nat} (h : ∀ k, a.testBit k = true → b.testBit k = true) : within a b = true := by
  suffices e : a &&& b = a by unfold within; rw [e]; exact beq_self_eq_true a
  refine Nat.eq_of_testBit_eq fun k => ?_
  rw [Nat.testBit_and]
  cases ha : a.testBit k with
  | false => rfl
  | true => rw [h k ha]; rfl

theorem disj_spec {a b : Nat} (h : disj a b = true) (k : Nat) (hk : a.testBit k = true) : b.testBit k = false := by
  have e : a &&& b = 0 := eq_of_beq h
  cases hb : b.testBit k with
  | false => rfl
  | true =>
    have := Nat.testBit_and a b k
    rw [e, hk, hb] at this
    simp at this

theorem infos_get (ops : Array Oper) : ∀ (l : List Oper) (i : Nat), (infos ops l)[i]? = (l[i]?).map (infoOf ops)
  | [], i => by simp [infos]
  | o :: l, 0 => by simp [infos]
  | o :: l, i + 1 => by simp [infos, infos_get ops l i]

theorem mem_readyF {L : Nat} : ∀ {l : List OI} {j i : Nat}, i ∈ readyF L l j ↔ ∃ x, j ≤ i ∧ l[i - j]? = some x ∧ L.testBit i = false ∧ within x.after L = true
  | [], j, i => by simp [readyF]
  | x :: l, j, i => by
    simp only [readyF]
    have ih := mem_readyF (L := L) (l := l) (j := j + 1) (i := i)
    have step : (∃ y, j + 1 ≤ i ∧ l[i - (j + 1)]? = some y ∧ L.testBit i = false ∧ within y.after L = true) ↔ ∃ y, j < i ∧ (x :: l)[i - j]? = some y ∧ L.testBit i = false ∧ within y.after L = true := by
      constructor
      · rintro ⟨y, h1, h2, h3⟩
        exact ⟨y, h1, by rw [show i - j = (i - (j + 1)) + 1 by omega, List.getElem?_cons_succ]; exact h2, h3⟩
      · rintro ⟨y, h1, h2, h3⟩
        exact ⟨y, h1, by rw [show i - j = (i - (j + 1)) + 1 by omega, List.getElem?_cons_succ] at h2; exact h2, h3⟩
    split
    · rename_i hc
      simp only [Bool.and_eq_true, Bool.not_eq_true'] at hc
      rw [List.mem_cons, ih, step]
      constructor
      · rintro (rfl | ⟨y, h1, h2⟩)
        · exact ⟨x, Nat.le_refl _, by simp, hc⟩
        · exact ⟨y, Nat.le_of_lt h1, h2⟩
      · rintro ⟨y, h1, h2⟩
        rcases Nat.lt_or_ge j i with h | h
        · exact .inr ⟨y, h, h2⟩
        · exact .inl (by omega)
    · rename_i hc
      rw [ih, step]
      constructor
      · rintro ⟨y, h1, h2⟩; exact ⟨y, Nat.le_of_lt h1, h2⟩
      · rintro ⟨y, h1, h2, h3, h4⟩
        rcases Nat.lt_or_ge j i with h | h
        · exact ⟨y, h, h2, h3, h4⟩
        · have : i = j := by omega
          subst this
          simp at h2
          subst h2
          simp [h3, h4] at hc

theorem okR_spec {L i R : Nat} {xi : OI} : ∀ {l : List OI} {j : Nat}, okR L i R xi l j = true → ∀ (q : Nat) (x : OI), l[q]? = some x →
    (R.testBit (j + q) = true → i ≠ j + q ∧ (x.calm || !xi.ld) = true ∧ x.sel = false ∧ disj xi.dst x.looks = true ∧ disj xi.dst x.dst = true ∧ disj x.dst xi.looks = true) ∧
    (i ≠ j + q → L.testBit (j + q) = false → within x.after (L ||| R) = true → R.testBit (j + q) = true)
  | [], _, _, q, x, h => by simp at h
  | y :: l, j, hok, q, x, h => by
    simp only [okR, Bool.and_eq_true] at hok
    cases q with
    | zero =>
      simp at h
      subst h
      have h0 := hok.1
      simp only [Nat.add_zero]
      split at h0
      · rename_i hR
        simp only [Bool.and_eq_true, Bool.not_eq_true'] at h0
        refine ⟨fun _ => ⟨fun e => ?_, h0.1.1.1.1.2, h0.1.1.1.2, h0.1.1.2, h0.1.2, h0.2⟩, fun _ _ _ => hR⟩
        have := h0.1.1.1.1.1
        rw [e, beq_self_eq_true] at this; cases this
      · rename_i hR
        refine ⟨fun h => absurd h (by simp [hR]), fun h1 h2 h3 => ?_⟩
        simp only [Bool.or_eq_true, Bool.not_eq_true', h2, h3] at h0
        rcases h0 with (h0 | h0) | h0
        · exact absurd (eq_of_beq h0) h1
        · cases h0
        · cases h0
    | succ q =>
      simp at h
      have := okR_spec hok.2 q x h
      rw [show j + (q + 1) = j + 1 + q by omega]
      exact this

/-- The first that may be taken first. -/
def pickV (L : Nat) (all : List OI) : List OI → Nat → Option Nat
  | [], _ => none
  | x :: l, j => match !L.testBit j && within x.after L && x.val && !x.sel && okR L j (freeM L j all 0 0) x all 0 with
    | true => some j
    | false => pickV L all l (j + 1)

theorem pickV_spec {L : Nat} {all : List OI} : ∀ {l : List OI} {j i : Nat}, pickV L all l j = some i → ∃ x, j ≤ i ∧ l[i - j]? = some x ∧ L.testBit i = false ∧ within x.after L = true ∧ x.val = true ∧ x.sel = false ∧ okR L i (freeM L i all 0 0) x all 0 = true
  | [], _, _, h => by cases h
  | y :: l, j, i, h => by
    simp only [pickV] at h
    split at h
    · rename_i hc
      cases h
      simp only [Bool.and_eq_true, Bool.not_eq_true'] at hc
      exact ⟨y, Nat.le_refl _, by simp, hc.1.1.1.1, hc.1.1.1.2, hc.1.1.2, hc.1.2, hc.2⟩
    · obtain ⟨x, h1, h2, h3⟩ := pickV_spec h
      exact ⟨x, by omega, by rw [show i - j = (i - (j + 1)) + 1 by omega, List.getElem?_cons_succ]; exact h2, h3⟩

/-! ### Every order -/
def calmAt (ops : Array Oper) (i : Nat) : Prop := ∀ o, ops[i]? = some o → calmOp o.op = true

section
variable {P : Program} {ops : Array Oper} {Q : Exit → Act → World → Prop}

/-- Whatever order is picked from here on; behind a calm operation the cells stand. -/
def wpAnyF (P : Program) (ops : Array Oper) (Q : Exit → Act → World → Prop) : Nat → Array Bool → Act → World → Prop
  | 0, listed, a, w => Region.ready .any ops listed = [] ∧ Q .normal a w
  | fuel + 1, listed, a, w =>
    (Region.ready .any ops listed = [] → Q .normal a w) ∧
    ∀ i ∈ Region.ready .any ops listed, wpOp P ops Q i (fun a' w' => (calmAt ops i → Keeps w w') ∧ wpAnyF P ops Q fuel (listed.setIfInBounds i true) a' w') a w

theorem wpAny_of_F : ∀ (fuel : Nat) (listed : Array Bool) (a : Act) (w : World), wpAnyF P ops Q fuel listed a w → wpAny P .any ops Q fuel listed a w
  | 0, _, _, _, h => h
  | fuel + 1, _, _, _, h => ⟨h.1, fun i hi => wpOp_mono (fun a' w' h' => wpAny_of_F fuel _ a' w' h'.2) (h.2 i hi)⟩

theorem wpAnyF_first {ld : Bool} {i : Nat} {oi : Oper} {v : Value} {R : Nat → Prop} (hi : ops[i]? = some oi) (hsi : ∀ cs b, oi.op ≠ .select cs b)
    (hQ : ∀ c a w, Q (.panic c) (a.put oi.dst v) w → Q (.panic c) a w)
    (hR : ∀ j oj, R j → ops[j]? = some oj → j ≠ i ∧ (ld = true → calmOp oj.op = true) ∧ (∀ cs b, oj.op ≠ .select cs b) ∧ oi.apart ops oj = true) :
    ∀ (fuel : Nat) (listed : Array Bool) (a : Act) (w : World),
      (∀ j oj, ops[j]? = some oj → j ≠ i → listed.getD j true = false → (∀ e ∈ oj.after, Region.binds .any e = true → listed.getD e.on false = true ∨ R e.on) → R j) →
      i ∈ Region.ready .any ops listed → YieldsIf P ops (fun w' => ld = true → Keeps w w') oi v a →
      wpAnyF P ops Q fuel (listed.setIfInBounds i true) (a.put oi.dst v) w → wpAnyF P ops Q (fuel + 1) listed a w := by
  intro fuel
  induction fuel with
  | zero =>
    intro listed a w _ hr hy H
    refine ⟨fun h => (by rw [h] at hr; cases hr), fun j hj => ?_⟩
    by_cases hji : j = i
    · subst hji; exact hy.wpOp hi (fun _ => Keeps.refl w) ⟨fun _ => Keeps.refl w, H⟩
    · have := ready_mono hj hji
      rw [H.1] at this
      cases this
  | succ fuel ih =>
    intro listed a w hfree hr hy H
    refine ⟨fun h => (by rw [h] at hr; cases hr), fun j hj => ?_⟩
    by_cases hji : j = i
    · subst hji; exact hy.wpOp hi (fun _ => Keeps.refl w) ⟨fun _ => Keeps.refl w, H⟩
    · have h1 := H.2 j (ready_mono hj hji)
      obtain ⟨hjun, oj, hoj, hall⟩ := mem_ready.1 hj
      have hRj : R j := hfree j oj hoj hji hjun fun e he hb => .inl (hall e he hb)
      obtain ⟨_, hcalm, hsj, hap⟩ := hR j oj hRj hoj
      have h2 := wpOp_putIf hoj hap hsi hsj hQ hy h1
      have hfree' : ∀ k ok, ops[k]? = some ok → k ≠ i → (listed.setIfInBounds j true).getD k true = false →
          (∀ e ∈ ok.after, Region.binds .any e = true → (listed.setIfInBounds j true).getD e.on false = true ∨ R e.on) → R k := fun k ok hk hki hun hno => by
        refine hfree k ok hk hki ?_ fun e he hb => ?_
        · by_cases hjk : j = k
          · subst hjk; exact hjun
          · rw [getD_set_ne true hjk] at hun; exact hun
        · by_cases hje : j = e.on
          · exact .inr (hje ▸ hRj)
          · rcases hno e he hb with h | h
            · rw [getD_set_ne false hje] at h; exact .inl h
            · exact .inr h
      refine wpOp_mono (fun a' w' h3 => ?_) h2
      obtain ⟨hy', hk, h4⟩ := h3
      have hk' : ld = true → Keeps w w' := fun e => hk fun o ho => by rw [hoj] at ho; cases ho; exact hcalm e
      refine ⟨hk, ih (listed.setIfInBounds j true) a' w' hfree' (ready_mono hr (Ne.symm hji)) ?_ ?_⟩
      · exact hy'.imp (fun ⟨x, y⟩ => ⟨x, fun w'' hw => y w'' fun e => (hk' e).trans (hw e)⟩) id
      · rw [Array.setIfInBounds_comm _ _ hji]
        exact h4
end

/-- What is listed, as a number. -/
structure Lst (n : Nat) (listed : Array Bool) (L : Nat) : Prop where
  size : listed.size = n
  bit : ∀ j, j < n → listed[j]? = some (L.testBit j)
  out : ∀ j, n ≤ j → L.testBit j = false

theorem Lst.start (n : Nat) : Lst n (Array.replicate n false) 0 := ⟨by simp, fun j hj => by simp [hj], fun j _ => by simp⟩

theorem Lst.set {n : Nat} {listed : Array Bool} {L i : Nat} (h : Lst n listed L) (hi : i < n) : Lst n (listed.setIfInBounds i true) (L ||| (1 <<< i)) := by
  refine ⟨by simp [h.size], fun j hj => ?_, fun j hj => ?_⟩
  · rw [Nat.testBit_or, Nat.one_shiftLeft, Nat.testBit_two_pow]
    by_cases e : i = j
    · subst e; simp [h.size, hj]
    · rw [Array.getElem?_setIfInBounds_ne e, h.bit j hj]; simp [e]
  · rw [Nat.testBit_or, Nat.one_shiftLeft, Nat.testBit_two_pow, h.out j hj]
    simp; omega

theorem Lst.getF {n : Nat} {listed : Array Bool} {L : Nat} (h : Lst n listed L) (j : Nat) : listed.getD j false = L.testBit j := by
  rcases Nat.lt_or_ge j n with hj | hj
  · simp [h.bit j hj]
  · rw [h.out j hj]
    simp [Array.getElem?_eq_none (show listed.size ≤ j by rw [h.size]; exact hj)]

theorem Lst.getT {n : Nat} {listed : Array Bool} {L : Nat} (h : Lst n listed L) (j : Nat) (hj : j < n) : listed.getD j true = L.testBit j := by
  simp [h.bit j hj]

theorem mem_deps {o : Oper} {b : Nat} : b ∈ deps o ↔ ∃ e ∈ o.after, Region.binds .any e = true ∧ e.on = b := by
  simp only [deps, List.mem_filterMap, Array.mem_toList_iff]
  constructor
  · rintro ⟨e, he, h⟩
    split at h
    · rename_i hb; cases h; exact ⟨e, he, hb, rfl⟩
    · cases h
  · rintro ⟨e, he, hb, rfl⟩
    exact ⟨e, he, by rw [hb]⟩

theorem infos_at {ops : Array Oper} {i : Nat} {x : OI} : (infos ops ops.toList)[i]? = some x ↔ ∃ o, ops[i]? = some o ∧ x = infoOf ops o := by
  rw [infos_get, Option.map_eq_some_iff]
  constructor
  · rintro ⟨o, h1, h2⟩; exact ⟨o, by rw [← Array.getElem?_toList]; exact h1, h2.symm⟩
  · rintro ⟨o, h1, h2⟩; exact ⟨o, by rw [Array.getElem?_toList]; exact h1, h2.symm⟩

theorem ready_iff {ops : Array Oper} {listed : Array Bool} {L i : Nat} (h : Lst ops.size listed L) : i ∈ Region.ready .any ops listed ↔ i ∈ readyF L (infos ops ops.toList) 0 := by
  rw [mem_ready, mem_readyF]
  simp only [Nat.zero_le, true_and, Nat.sub_zero, infos_at]
  constructor
  · rintro ⟨h0, o, ho, hall⟩
    have hlt : i < ops.size := (Array.getElem?_eq_some_iff.1 ho).1
    refine ⟨_, ⟨o, ho, rfl⟩, by rw [← h.getT i hlt]; exact h0, within_of fun k hk => ?_⟩
    obtain ⟨e, he, hb, rfl⟩ := mem_deps.1 ((testBit_maskOf _ _).1 hk)
    rw [← h.getF]; exact hall e he hb
  · rintro ⟨x, ⟨o, ho, rfl⟩, h0, hw⟩
    have hlt : i < ops.size := (Array.getElem?_eq_some_iff.1 ho).1
    refine ⟨by rw [h.getT i hlt]; exact h0, o, ho, fun e he hb => ?_⟩
    rw [h.getF]
    exact within_spec hw _ ((testBit_maskOf _ _).2 (mem_deps.2 ⟨e, he, hb, rfl⟩))

theorem isSel_spec {o : Oper} (h : isSel o.op = false) : ∀ cs b, o.op ≠ .select cs b := fun cs b e => by rw [e] at h; cases h

theorem apart_of {ops : Array Oper} {x y : Oper} (h1 : disj (maskOf x.dst.toList) (maskOf (y.looksAt ops)) = true) (h2 : disj (maskOf x.dst.toList) (maskOf y.dst.toList) = true)
    (h3 : disj (maskOf y.dst.toList) (maskOf (x.looksAt ops)) = true) : x.apart ops y = true := by
  have key : ∀ {l m : List Nat} {d : Nat}, disj (maskOf l) (maskOf m) = true → d ∈ l → d ∉ m := fun {l m d} h hd hm => by
    have := disj_spec h d ((testBit_maskOf _ _).2 hd)
    rw [(testBit_maskOf _ _).2 hm] at this
    cases this
  unfold Oper.apart
  simp only [Bool.and_eq_true]
  constructor
  · split
    · rename_i d hd
      have e : d ∈ x.dst.toList := by simp [hd]
      simp only [Bool.and_eq_true, Bool.not_eq_true', List.contains_eq_mem, decide_eq_false_iff_not]
      refine ⟨key h1 e, ?_⟩
      have := key h2 e
      simpa using this
    · rfl
  · split
    · rename_i d hd
      have e : d ∈ y.dst.toList := by simp [hd]
      simp only [Bool.not_eq_true', List.contains_eq_mem, decide_eq_false_iff_not]
      exact key h3 e
    · rfl

def allOf : List Nat → Prop → (Nat → Prop) → Prop
  | [], e, _ => e
  | [i], _, f => f i
  | i :: j :: l, e, f => f i ∧ allOf (j :: l) e f

theorem allOf_spec {e : Prop} {f : Nat → Prop} : ∀ {l : List Nat}, allOf l e f → (l = [] → e) ∧ ∀ i ∈ l, f i
  | [], h => ⟨fun _ => h, by simp⟩
  | [i], h => ⟨fun e => absurd e (by simp), by simpa [allOf] using h⟩
  | i :: j :: l, h => by
    obtain ⟨h1, h2⟩ := h
    have := allOf_spec h2
    refine ⟨fun e => absurd e (by simp), fun q hq => ?_⟩
    rcases List.mem_cons.1 hq with rfl | hq
    · exact h1
    · exact this.2 q hq

def vcDraw (ar : Ar) (Γ : Ctx) (ops : List Oper) (is : List OI) : Nat → Nat → St → (St → Prop) → Prop
  | 0, L, st, k => match readyF L is 0 with
    | [] => k st
    | _ => False
  | fuel + 1, L, st, k => match pickV L is is 0 with
    | some i => match ops[i]? with
      | some o => guarded ops o st (fun st => valP ar o st fun sv st' => vcDraw ar Γ ops is fuel (L ||| (1 <<< i)) ⟨putF st'.fr o.dst sv, st'.ob⟩ k) (fun st => vcDraw ar Γ ops is fuel (L ||| (1 <<< i)) ⟨putF st.fr o.dst .ud, st.ob⟩ k)
      | none => False
    | none => allOf (readyF L is 0) (k st) fun i => match ops[i]? with
      | some o => guarded ops o st (fun st => opP false ar Γ o st fun sv st' => vcDraw ar Γ ops is fuel (L ||| (1 <<< i)) ⟨putF st'.fr o.dst sv, st'.ob⟩ k) (fun st => vcDraw ar Γ ops is fuel (L ||| (1 <<< i)) ⟨putF st.fr o.dst .ud, st.ob⟩ k)
      | none => False

theorem vcDraw_spec {P : Program} (hT : TTok P) (hfs : Enters P) {Γ : Ctx} (hG : Γ.Ok P) {B : Nat} {W0 : World} {m0 : Mem} {ops : Array Oper} {Q : Exit → Act → World → Prop} {k : St → Prop} (hQ : ∀ E st a W, k st → Sim B W0 m0 E st a W → Q .normal a W)
    (hQp : ∀ (dst : Option Tmp) (v : Value) c a w, Q (.panic c) (a.put dst v) w → Q (.panic c) a w) :
    ∀ (fuel L : Nat) {listed : Array Bool} {E : Env} {st : St} {a : Act} {W : World}, Lst ops.size listed L → Sim B W0 m0 E st a W → vcDraw arS Γ ops.toList (infos ops ops.toList) fuel L st k → wpAnyF P ops Q fuel listed a W
  | 0, L, listed, E, st, a, W, hL, h, hk => by
    unfold vcDraw at hk
    split at hk
    · rename_i hr
      refine ⟨?_, hQ E st a W hk h⟩
      rw [List.eq_nil_iff_forall_not_mem]
      intro i hi
      rw [ready_iff hL, hr] at hi
      cases hi
    · exact hk.elim
  | fuel + 1, L, listed, E, st, a, W, hL, h, hk => by
    unfold vcDraw at hk
    split at hk
    · rename_i i hp
      split at hk
      · rename_i o ho
        rw [Array.getElem?_toList] at ho
        have hlt : i < ops.size := (Array.getElem?_eq_some_iff.1 ho).1
        obtain ⟨x, _, hx, hLi, hw, hv, hs, hok⟩ := pickV_spec hp
        rw [Nat.sub_zero] at hx
        obtain ⟨o', ho', rfl⟩ := infos_at.1 hx
        rw [ho] at ho'
        cases ho'
        have hready : i ∈ Region.ready .any ops listed := (ready_iff hL).2 (mem_readyF.2 ⟨_, Nat.zero_le _, by rw [Nat.sub_zero]; exact hx, hLi, hw⟩)
        have hsp := fun q oq (hq : ops[q]? = some oq) => okR_spec hok q (infoOf ops oq) (infos_at.2 ⟨oq, hq, rfl⟩)
        have main : ∀ v, YieldsIf P ops (fun W' => isLoad o.op = true → Keeps W W') o v a → wpAnyF P ops Q fuel (listed.setIfInBounds i true) (a.put o.dst v) W → wpAnyF P ops Q (fuel + 1) listed a W := fun v hy H => by
          refine wpAnyF_first (ld := isLoad o.op) (R := fun j => (freeM L i (infos ops ops.toList) 0 0).testBit j = true) ho (isSel_spec hs) (fun c a w => hQp _ _ c a w) (fun j oj hj hoj => ?_) fuel listed a W (fun j oj hoj hji hun hall => ?_) hready hy H
          · have := (hsp j oj hoj).1 (by rw [Nat.zero_add]; exact hj)
            rw [Nat.zero_add] at this
            obtain ⟨h1, h2, h3, h4, h5, h6⟩ := this
            exact ⟨fun e => h1 e.symm, fun hl => by simpa [infoOf, hl] using h2, isSel_spec h3, apart_of h4 h5 h6⟩
          · have hlt' : j < ops.size := (Array.getElem?_eq_some_iff.1 hoj).1
            have := (hsp j oj hoj).2
            rw [Nat.zero_add] at this
            refine this (fun e => hji e.symm) (by rw [← hL.getT j hlt']; exact hun) (within_of fun b hb => ?_)
            obtain ⟨e, he, hbd, rfl⟩ := mem_deps.1 ((testBit_maskOf _ _).1 hb)
            rw [Nat.testBit_or, Bool.or_eq_true, ← hL.getF]
            exact hall e he hbd
        rcases guarded_spec h hk with ⟨hw, st', h', hk⟩ | ⟨hw, st', h', hk⟩
        · obtain ⟨sv, st2, E2, v, hk, h2, hr, hsv⟩ := valP_spec hT hfs h' hk
          exact main v (.inl ⟨hw, hr⟩) (vcDraw_spec hT hfs hG hQ hQp fuel _ (hL.set hlt) (h2.put hsv o.dst) hk)
        · exact main undef (.inr ⟨hw, rfl⟩) (vcDraw_spec hT hfs hG hQ hQp fuel _ (hL.set hlt) (h'.put (sv := .ud) (v := undef) rfl o.dst) hk)
      · exact hk.elim
    · obtain ⟨h0, h1⟩ := allOf_spec hk
      refine ⟨fun hr => hQ E st a W (h0 ?_) h, fun i hi => ?_⟩
      · rw [List.eq_nil_iff_forall_not_mem]
        intro i hi
        rw [← ready_iff hL, hr] at hi
        cases hi
      · have hk := h1 i ((ready_iff hL).1 hi)
        split at hk
        · rename_i o ho
          rw [Array.getElem?_toList] at ho
          have hlt : i < ops.size := (Array.getElem?_eq_some_iff.1 ho).1
          unfold wpOp
          simp only [ho]
          rcases guarded_spec h hk with ⟨hw, st', h', hk⟩ | ⟨hw, st', h', hk⟩
          · rw [if_pos hw]
            refine .inl (opP_spec (il := false) hT hfs hG h' hk fun sv st' E' W' v hk' hs hr hc => ⟨fun hcalm => hc (hcalm o ho), ?_⟩)
            exact vcDraw_spec hT hfs hG hQ hQp fuel _ (hL.set hlt) (hs.put hr o.dst) hk'
          · rw [if_neg (by simp [hw])]
            exact ⟨fun _ => Keeps.refl W, vcDraw_spec hT hfs hG hQ hQp fuel _ (hL.set hlt) (h'.put (sv := .ud) (v := undef) rfl o.dst) hk⟩
        · exact hk.elim

/-! ### One order for all -/
/-- What the planner looks at. -/
def lite : List Oper → List (Bool × Nat)
  | [] => []
  | o :: l => (isVal o.op, maskOf (deps o)) :: lite l

def firstV (L : Nat) : List (Bool × Nat) → Nat → Option Nat
  | [], _ => none
  | (v, m) :: l, j => match v && !L.testBit j && within m L with
    | true => some j
    | false => firstV L l (j + 1)

def readyL (L : Nat) : List (Bool × Nat) → Nat → List Nat
  | [], _ => []
  | (_, m) :: l, j => match !L.testBit j && within m L with
    | true => j :: readyL L l (j + 1)
    | false => readyL L l (j + 1)

/-- An order in which each operation may be taken first, or is the only one that may come up. -/
def planO (is : List (Bool × Nat)) : Nat → Nat → Option (List Nat)
  | 0, _ => some []
  | n + 1, L => match firstV L is 0 with
    | some i => (planO is n (L ||| (1 <<< i))).map (i :: ·)
    | none => match readyL L is 0 with
      | [i] => (planO is n (L ||| (1 <<< i))).map (i :: ·)
      | _ => none

def pickAll (ops : List Oper) : List Nat → List Oper
  | [] => []
  | i :: l => match ops[i]? with
    | some o => o :: pickAll ops l
    | none => pickAll ops l

theorem valP_of_opP {ar : Ar} {Γ : Ctx} {o : Oper} {st : St} {k : SV → St → Prop} (hx : ∀ f, ext f ≠ 0 → entered f = false) (hv : isVal o.op = true) (h : opP false ar Γ o st k) : valP ar o st k := by
  unfold opP at h
  split at h
  case h_1 ho => rw [ho] at hv; cases hv
  case h_2 ho => rw [ho] at hv; cases hv
  case h_3 ho => rw [ho] at hv; cases hv
  case h_4 ho => rw [ho] at hv; cases hv
  case h_5 c ho =>
    rw [ho] at hv
    simp only [isVal] at hv
    split at hv
    · rename_i hc
      rw [hc] at h
      exact h
    · rename_i hc
      rw [hc] at h
      exact h
    · rename_i hc
      rw [hc] at h
      exact h
    · rename_i f hc
      split at hv
      · cases hv
      · rename_i hne
        rw [hc] at h
        simp only [hx f hne] at h
        exact h
    · cases hv
  case h_6 ho => rw [ho] at hv; cases hv
  case h_7 => exact h

/-- One operation that may be taken first. -/
theorem wpAnyF_take {P : Program} {ops : Array Oper} {Q : Exit → Act → World → Prop} (hQp : ∀ (dst : Option Tmp) (v : Value) c a w, Q (.panic c) (a.put dst v) w → Q (.panic c) a w) {i fuel L : Nat} {listed : Array Bool} {a : Act} {W : World} {o : Oper} (hL : Lst ops.size listed L) (ho : ops[i]? = some o)
    (hLi : L.testBit i = false) (hw : within (infoOf ops o).after L = true) (hs : (infoOf ops o).sel = false) (hok : okR L i (freeM L i (infos ops ops.toList) 0 0) (infoOf ops o) (infos ops ops.toList) 0 = true) {v : Value} (hy : YieldsIf P ops (fun W' => isLoad o.op = true → Keeps W W') o v a)
    (H : wpAnyF P ops Q fuel (listed.setIfInBounds i true) (a.put o.dst v) W) : wpAnyF P ops Q (fuel + 1) listed a W := by
  have hready : i ∈ Region.ready .any ops listed := (ready_iff hL).2 (mem_readyF.2 ⟨_, Nat.zero_le _, by rw [Nat.sub_zero]; exact infos_at.2 ⟨o, ho, rfl⟩, hLi, hw⟩)
  have hsp := fun q oq (hq : ops[q]? = some oq) => okR_spec hok q (infoOf ops oq) (infos_at.2 ⟨oq, hq, rfl⟩)
  refine wpAnyF_first (ld := isLoad o.op) (R := fun j => (freeM L i (infos ops ops.toList) 0 0).testBit j = true) ho (isSel_spec hs) (fun c a w => hQp _ _ c a w) (fun j oj hj hoj => ?_) fuel listed a W (fun j oj hoj hji hun hall => ?_) hready hy H
  · have := (hsp j oj hoj).1 (by rw [Nat.zero_add]; exact hj)
    rw [Nat.zero_add] at this
    obtain ⟨h1, h2, h3, h4, h5, h6⟩ := this
    exact ⟨fun e => h1 e.symm, fun hl => by simpa [infoOf, hl] using h2, isSel_spec h3, apart_of h4 h5 h6⟩
  · have hlt' : j < ops.size := (Array.getElem?_eq_some_iff.1 hoj).1
    have := (hsp j oj hoj).2
    rw [Nat.zero_add] at this
    refine this (fun e => hji e.symm) (by rw [← hL.getT j hlt']; exact hun) (within_of fun b hb => ?_)
    obtain ⟨e, he, hbd, rfl⟩ := mem_deps.1 ((testBit_maskOf _ _).1 hb)
    rw [Nat.testBit_or, Bool.or_eq_true, ← hL.getF]
    exact hall e he hbd

theorem vcOrd_spec {P : Program} (hT : TTok P) (hfs : Enters P) {Γ : Ctx} (hG : Γ.Ok P) {B : Nat} {W0 : World} {m0 : Mem} {ops : Array Oper} {Q : Exit → Act → World → Prop} {k : St → Prop} (hQ : ∀ E st a W, k st → Sim B W0 m0 E st a W → Q .normal a W)
    (hQp : ∀ (dst : Option Tmp) (v : Value) c a w, Q (.panic c) (a.put dst v) w → Q (.panic c) a w) :
    ∀ (ord : List Nat) (L : Nat) {listed : Array Bool} {E : Env} {st : St} {a : Act} {W : World}, chkO (infos ops ops.toList) L ord = true → Lst ops.size listed L → Sim B W0 m0 E st a W → vcOps false arS Γ ops.toList (pickAll ops.toList ord) st k → wpAnyF P ops Q ord.length listed a W
  | [], L, listed, E, st, a, W, hc, hL, h, hk => by
    unfold chkO at hc
    split at hc
    · rename_i hr
      refine ⟨?_, hQ E st a W hk h⟩
      rw [List.eq_nil_iff_forall_not_mem]
      intro i hi
      rw [ready_iff hL, hr] at hi
      cases hi
    · cases hc
  | i :: ord, L, listed, E, st, a, W, hc, hL, h, hk => by
    unfold chkO at hc
    rw [Bool.and_eq_true] at hc
    obtain ⟨hc, hrest⟩ := hc
    split at hc
    · rename_i x hx
      obtain ⟨o, ho, rfl⟩ := infos_at.1 hx
      have hlt : i < ops.size := (Array.getElem?_eq_some_iff.1 ho).1
      simp only [Bool.and_eq_true, Bool.not_eq_true', Bool.or_eq_true] at hc
      obtain ⟨⟨hLi, hw⟩, hc⟩ := hc
      have hp : pickAll ops.toList (i :: ord) = o :: pickAll ops.toList ord := by
        simp only [pickAll, Array.getElem?_toList, ho]
      rw [hp] at hk
      unfold vcOps at hk
      have hg := guarded_spec h hk
      rw [List.length_cons]
      rcases hc with ⟨⟨hv, hs⟩, hok⟩ | hone
      · rcases hg with ⟨hw', st', h', hk⟩ | ⟨hw', st', h', hk⟩
        · obtain ⟨sv, st2, E2, v, hk, h2, hr, hsv⟩ := valP_spec hT hfs h' (valP_of_opP hfs.apart hv hk)
          exact wpAnyF_take hQp hL ho hLi hw hs hok (.inl ⟨hw', hr⟩) (vcOrd_spec hT hfs hG hQ hQp ord _ hrest (hL.set hlt) (h2.put hsv o.dst) hk)
        · exact wpAnyF_take hQp hL ho hLi hw hs hok (.inr ⟨hw', rfl⟩) (vcOrd_spec hT hfs hG hQ hQp ord _ hrest (hL.set hlt) (h'.put (sv := .ud) (v := undef) rfl o.dst) hk)
      · split at hone
        · rename_i j hj
          have hij : i = j := eq_of_beq hone
          subst hij
          have hmem : ∀ q, q ∈ Region.ready .any ops listed ↔ q = i := fun q => by rw [ready_iff hL, hj]; simp
          refine ⟨fun hr => ?_, fun q hq => ?_⟩
          · have := (hmem i).2 rfl
            rw [hr] at this
            cases this
          · rw [hmem] at hq
            subst hq
            unfold wpOp
            simp only [ho]
            rcases hg with ⟨hw', st', h', hk⟩ | ⟨hw', st', h', hk⟩
            · rw [if_pos hw']
              exact .inl (opP_spec (il := false) hT hfs hG h' hk fun sv st' E' W' v hk' hs hr hc => ⟨fun hcalm => hc (hcalm o ho), vcOrd_spec hT hfs hG hQ hQp ord _ hrest (hL.set hlt) (hs.put hr o.dst) hk'⟩)
            · rw [if_neg (by simp [hw'])]
              exact ⟨fun _ => Keeps.refl W, vcOrd_spec hT hfs hG hQ hQp ord _ hrest (hL.set hlt) (h'.put (sv := .ud) (v := undef) rfl o.dst) hk⟩
        · cases hone
    · cases hc

theorem Sim.drawn {B : Nat} {W0 : World} {m0 : Mem} {E : Env} {st : St} {a : Act} {W : World} (h : Sim B W0 m0 E st a W) : Sim B W0 m0 E st a { W with drawn := W.drawn + 1 } := by
  have hg : W.grownBy { W with drawn := W.drawn + 1 } none := ⟨rfl, rfl, rfl, Nat.le_refl _, fun _ _ _ => rfl⟩
  have := h.inv.world hg (Mem.le_refl _) (fun b o w hm => .inl hm) (fun b o w hm => hg.cell (h.inv.mu b o w hm) (by simp))
  exact ⟨this, h.fr, h.below.grown hg h.inv.size (fun g e => by cases e), h.grew, h.had, h.defers⟩

def nStores : List Oper → Nat
  | [] => 0
  | o :: l => match o.op with
    | .store _ _ _ => nStores l + 1
    | _ => nStores l

/-- Calls of Go functions; calls that are walked in place. -/
def nGo : List Oper → Nat
  | [] => 0
  | o :: l => match o.op with
    | .call c => match c.callee with
      | .value (.func _) => nGo l + 1
      | _ => nGo l
    | _ => nGo l
def anyWild : List Oper → Bool
  | [] => false
  | o :: l => match o.op with
    | .call c => match c.callee with
      | .value (.func f) => match wild f with
        | true => true
        | false => anyWild l
      | _ => anyWild l
    | _ => anyWild l

/-- Two calls, one of them walked in place. -/
def mixedCalls (ops : List Oper) : Bool :=
  match anyWild ops with
  | true => match nGo ops with
    | 0 => false
    | 1 => false
    | _ => true
  | false => false

/-- One order for all is looked for where at most one store stands. -/
def planS (ops : List Oper) : Option (List Nat) :=
  match mixedCalls ops with
  | true => none
  | false => match nStores ops with
    | 0 => planO (lite ops) ops.length 0
    | 1 => planO (lite ops) ops.length 0
    | _ => none

/-- A region that draws its order. -/
def vcDraws (ar : Ar) (Γ : Ctx) (cked : List Oper → List Nat → Bool) (ops : List Oper) (st : St) (k : St → Prop) : Prop :=
  match planS ops with
  | some ord => cked ops ord = true ∧ vcOps false ar Γ ops (pickAll ops ord) st k
  | none => ∃ (ι : Type) (I : ι → St), vcDraw ar Γ ops (infos ops.toArray ops) ops.length 0 st (fun st' => ∃ i, fits st' (I i)) ∧ ∀ i, k (I i)

theorem wp_region_draws {P : Program} (hT : TTok P) (hfs : Enters P) {Γ : Ctx} (hG : Γ.Ok P) {B : Nat} {W0 : World} {m0 : Mem} {id : Nat} {ops : Array Oper} {Q : Exit → Act → World → Prop} {k : St → Prop} (hQ : ∀ E st a W, k st → Sim B W0 m0 E st a W → Q .normal a W)
    {E : Env} {st : St} {a : Act} {W : World} (h : Sim B W0 m0 E st a W) (hk : vcDraws arS Γ chk ops.toList st k) : (Code.region id ops true).wp P Q a W := by
  let Q' : Exit → Act → World → Prop := fun e a w => match e with | .normal => Q .normal a w | _ => False
  have hany : wpAnyF P ops Q' ops.size (Array.replicate ops.size false) a { W with drawn := W.drawn + 1 } := by
    unfold vcDraws at hk
    split at hk
    · rename_i ord hp
      obtain ⟨hc, hk⟩ := hk
      simp only [chk, Bool.and_eq_true, Array.toArray_toList] at hc
      have hlen : ord.length = ops.size := eq_of_beq hc.1
      rw [← hlen]
      exact vcOrd_spec (Q := Q') hT hfs hG (fun E st a W hk h => hQ E st a W hk h) (fun _ _ _ _ _ q => q.elim) ord 0 hc.2 (by rw [hlen]; exact Lst.start _) h.drawn hk
    · obtain ⟨ι, I, hk, hI⟩ := hk
      rw [Array.toArray_toList] at hk
      exact vcDraw_spec (Q := Q') hT hfs hG (fun E st a W ⟨i, hf⟩ h => hQ _ _ a W (hI i) (h.fits hf)) (fun _ _ _ _ _ q => q.elim) _ _ (Lst.start _) h.drawn hk
  have key : (Code.region id ops true).wp P Q' a W := wp_region_any hfs.mixed (wpAny_of_F _ _ _ _ hany)
  exact Code.wp_mono (fun e a w q => by cases e <;> first | exact q | exact q.elim) key

end Go.Eng
