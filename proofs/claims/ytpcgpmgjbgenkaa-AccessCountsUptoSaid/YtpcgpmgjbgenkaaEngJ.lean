/-
  Code and functions: what a body asks; a function whose body is so asked is sound.
-/
import Derived.Test.YtpcgpmgjbgenkaaEngI2
namespace Go.Eng
open Go Go.RowKit

/-! ### A state that says less -/
def CV.below (n : Nat) : CV → Prop
  | .own k => k < n
  | .ptr k _ => k < n
  | .ept k _ _ _ _ => k < n
  | .bsl k _ _ _ => k < n
  | _ => True

def belowG (n : Nat) : List Seg → Prop
  | [] => True
  | .c x :: l => x.below n ∧ belowG n l
  | .r _ _ :: l => belowG n l

def SV.below (n : Nat) : SV → Prop
  | .s c => c.below n
  | .a row => belowG n row
  | _ => True

/-- a says all that b says. -/
def subC : CV → CV → Prop
  | .lit k n, .p (.v x) => x = .int k n
  | .bl b, .p (.v x) => x = .bool b
  | .nil, .p (.sl xs s) => xs = [] ∧ s = []
  | a, b => a = b

def subG : List Seg → List Seg → Prop
  | [], [] => True
  | .c a :: l, .c b :: m => subC a b ∧ subG l m
  | .r n us :: l, .r n' vs :: m => n = n' ∧ us = vs ∧ subG l m
  | _, _ => False

def subS : SV → SV → Prop
  | _, .un => True
  | .s a, .s b => subC a b
  | .a r, .a r' => subG r r'
  | .t rs, .t rs' => rs = rs'
  | _, _ => False

def fitsF (n : Nat) : List SV → List SV → Prop
  | [], [] => True
  | a :: as, b :: bs => subS a b ∧ b.below n ∧ fitsF n as bs
  | _, _ => False

def subO (n : Nat) : Ob → Ob → Prop
  | _, .gone => True
  | .box r, .box r' => subG r r' ∧ belowG n r'
  | .fbox r, .fbox r' => r = r'
  | .arr xs e sz by_ wr, .arr xs' e' sz' by' wr' => xs = xs' ∧ e = e' ∧ sz = sz' ∧ by_ = by' ∧ wr = wr'
  | _, _ => False

def fitsO (n : Nat) : List Ob → List Ob → Prop
  | _, [] => True
  | a :: as, b :: bs => subO n a b ∧ fitsO n as bs
  | [], _ :: _ => False

def fits (st st' : St) : Prop := fitsF st'.ob.length st.fr st'.fr ∧ fitsO st'.ob.length st.ob st'.ob

theorem subC_spec {E : Env} {a b : CV} {w : Value} (h : subC a b) (hr : RepK E a w) : RepK E b w := by
  unfold subC at h
  split at h
  · rw [h]; exact ⟨hr, rfl⟩
  · rw [h]; exact ⟨hr, rfl⟩
  · obtain ⟨rfl, rfl⟩ := h
    rw [show w = _ from hr]
    exact RepV.nil _
  · rw [← h]; exact hr

theorem subG_spec {E : Env} : ∀ {r r' : List Seg} {ws : List Value}, subG r r' → RepG E r ws → RepG E r' ws
  | [], [], _, _, hr => hr
  | .c a :: l, .c b :: m, _, h, ⟨w, ws', e, hv, hr⟩ => ⟨w, ws', e, subC_spec h.1 hv, subG_spec h.2 hr⟩
  | .r n us :: l, .r n' vs :: m, _, ⟨h1, h2, h3⟩, ⟨hl, ho, ws', e, hr⟩ => by subst h1; subst h2; exact ⟨hl, ho, ws', e, subG_spec h3 hr⟩
  | [], _ :: _, _, h, _ => by cases h
  | .c _ :: _, [], _, h, _ => by cases h
  | .r _ _ :: _, [], _, h, _ => by cases h
  | .c _ :: _, .r _ _ :: _, _, h, _ => by cases h
  | .r _ _ :: _, .c _ :: _, _, h, _ => by cases h

theorem below_spec {E : Env} {n : Nat} {c : CV} {w : Value} (h : c.below n) (hr : RepK E c w) : RepK { E with n := n } c w := by
  cases c with
  | own k => exact ⟨h, hr.2⟩
  | ptr k o => exact ⟨h, hr.2⟩
  | ept k b sz i o => exact ⟨h, hr.2⟩
  | bsl k o m sz => exact ⟨h, hr.2⟩
  | _ => exact hr

theorem belowG_spec {E : Env} {n : Nat} : ∀ {r : List Seg} {ws : List Value}, belowG n r → RepG E r ws → RepG { E with n := n } r ws
  | [], _, _, hr => hr
  | .c _ :: _, _, h, ⟨w, ws', e, hv, hr⟩ => ⟨w, ws', e, below_spec h.1 hv, belowG_spec h.2 hr⟩
  | .r _ _ :: _, _, h, ⟨hl, ho, ws', e, hr⟩ => ⟨hl, ho, ws', e, belowG_spec h hr⟩

theorem subS_spec {E : Env} {n : Nat} {a b : SV} {w : Value} (h : subS a b) (hb : b.below n) (hr : RepS E a w) : RepS { E with n := n } b w := by
  unfold subS at h
  split at h
  · trivial
  · exact below_spec hb (subC_spec h hr)
  · obtain ⟨ws, e, hg⟩ := hr; exact ⟨ws, e, belowG_spec hb (subG_spec h hg)⟩
  · subst h; exact hr
  · exact h.elim

theorem fitsF_spec {E : Env} {n : Nat} : ∀ {as bs : List SV} {ws : List Value}, fitsF n as bs → RepF E as ws → RepF { E with n := n } bs ws
  | [], [], _, _, hr => hr
  | a :: as, b :: bs, _, ⟨h1, h2, h3⟩, ⟨w, ws', e, hv, hr⟩ => ⟨w, ws', e, subS_spec h1 h2 hv, fitsF_spec h3 hr⟩
  | [], _ :: _, _, h, _ => by cases h
  | _ :: _, [], _, h, _ => by cases h

theorem fitsO_get {n : Nat} : ∀ {as bs : List Ob}, fitsO n as bs → ∀ (k : Nat) (b : Ob), bs[k]? = some b → ∃ a, as[k]? = some a ∧ subO n a b
  | _, [], _, k, b, h => by simp at h
  | a :: as, c :: bs, ⟨h1, h2⟩, 0, b, h => by simp at h; subst h; exact ⟨a, by simp, h1⟩
  | a :: as, c :: bs, ⟨h1, h2⟩, k + 1, b, h => by simpa using fitsO_get h2 k b (by simpa using h)
  | [], _ :: _, h, _, _, _ => by cases h

theorem subO_wblk {E : Env} {n k g m : Nat} {a b : Ob} (h : subO n a b) (hw : wblk { E with n := m } k b = some g) : wblk E k a = some g := by
  unfold subO at h
  split at h
  · cases hw
  · exact hw
  · cases hw
  · exact hw
  · exact h.elim

theorem Sim.fits {B : Nat} {W0 : World} {m0 : Mem} {E : Env} {st st' : St} {a : Act} {W : World} (h : Sim B W0 m0 E st a W) (hf : fits st st') : Sim B W0 m0 { E with n := st'.ob.length } st' a W := by
  refine ⟨⟨h.inv.size, rfl, h.inv.mu, fun k o hk => ?_, fun i j oi oj g hij hi hj hwi hwj => ?_⟩, fitsF_spec hf.1 h.fr, h.below, h.grew, h.had, h.defers⟩
  · obtain ⟨o', ho', hs⟩ := fitsO_get hf.2 k o hk
    have hO := h.inv.obs k o' ho'
    unfold subO at hs
    split at hs
    · trivial
    · obtain ⟨h1, ⟨t, ws, h2, h3⟩, h4⟩ := hO
      exact ⟨h1, ⟨t, ws, h2, belowG_spec hs.2 (subG_spec hs.1 h3)⟩, h4⟩
    · subst hs; exact hO
    · obtain ⟨rfl, rfl, rfl, rfl, rfl⟩ := hs; exact hO
    · exact hs.elim
  · obtain ⟨oi', hi', hsi⟩ := fitsO_get hf.2 i oi hi
    obtain ⟨oj', hj', hsj⟩ := fitsO_get hf.2 j oj hj
    exact h.inv.apart i j oi' oj' g hij hi' hj' (subO_wblk hsi hwi) (subO_wblk hsj hwj)

/-- A slot, or a box's cell, that holds nil, is named an own slice of nothing. -/
inductive NilAt where
  | slot (s : Nat) (e : TypeId)
  | cell (k off : Nat) (e : TypeId)

def nilOne (st : St) : NilAt → Option St
  | .slot s e => match st.fr[s]? with
    | some (.s .nil) => if 0 < (tt e).size then some ⟨st.fr.set s (.s (.own st.ob.length)), st.ob ++ [.arr [] e (tt e).size (tt e).bytes true]⟩ else none
    | _ => none
  | .cell k off e => match st.ob[k]? with
    | some (.box row) => match rget row off with
      | some .nil => match rput row off (.own st.ob.length) with
        | some row' => if 0 < (tt e).size then some ⟨st.fr, st.ob.set k (.box row') ++ [.arr [] e (tt e).size (tt e).bytes true]⟩ else none
        | none => none
      | _ => none
    | _ => none

def nilAll (st : St) : List NilAt → Option St
  | [] => some st
  | x :: l => match nilOne st x with
    | some st' => nilAll st' l
    | none => none

theorem rput_nil {E : Env} : ∀ {row row' : List Seg} {ws : List Value} {off : Nat} {c : CV}, RepG E row ws → rget row off = some .nil → rput row off c = some row' → RepK E c (.slice none 0 0) → RepG E row' ws := fun {row row' ws off c} hr hg hp hk => by
  obtain ⟨w, hw, hn⟩ := hr.get hg
  have := (hr.put hp hk).1
  have e : ws.set off (.slice none 0 0) = ws := by
    refine List.ext_getElem? fun i => ?_
    rw [List.getElem?_set]
    split
    · rename_i h; subst h; split
      · rw [hw, show w = _ from hn]
      · rename_i hlt; rw [List.getElem?_eq_none (by omega)]
    · rfl
  rw [e] at this
  exact this

theorem nilOne_spec {B : Nat} {W0 : World} {m0 : Mem} {E : Env} {st st' : St} {a : Act} {W : World} {x : NilAt} (h : Sim B W0 m0 E st a W) (hx : nilOne st x = some st') : ∃ E', Sim B W0 m0 E' st' a W := by
  have hn : st.ob.length = E.n := h.inv.n.symm
  have hle := E.le_push 0 (.slice none 0 0)
  have hv : RepK (E.push 0 (.slice none 0 0)) (.own st.ob.length) (.slice none 0 0) := ⟨by rw [hn]; exact Nat.lt_succ_self _, by rw [hn]; simp [Env.push], rfl⟩
  unfold nilOne at hx
  split at hx
  · rename_i s e
    split at hx
    · rename_i hs
      split at hx
      · rename_i hsz
        cases hx
        refine ⟨_, h.inv.nilOwn hsz, ?_, h.below, h.grew, h.had, h.defers⟩
        obtain ⟨w, hw, hnil⟩ := h.fr.get s _ hs
        have e1 : w = .slice none 0 0 := hnil
        subst e1
        have := (h.fr.mono hle).set s (.s (.own st.ob.length)) (.slice none 0 0) hv
        have e2 : a.tmps.toList.set s (.slice none 0 0) = a.tmps.toList := by
          refine List.ext_getElem? fun i => ?_
          rw [List.getElem?_set]
          split
          · rename_i hdi; subst hdi; split
            · exact hw.symm
            · rename_i hlt; rw [List.getElem?_eq_none (by omega)]
          · rfl
        rw [e2] at this
        exact this
      · cases hx
    · cases hx
  · rename_i k off e
    split at hx
    · rename_i row hk
      split at hx
      · rename_i hg
        split at hx
        · rename_i row' hp
          split at hx
          · rename_i hsz
            cases hx
            have i1 := h.inv.nilOwn (e := e) (sz := (tt e).size) (bytes := (tt e).bytes) hsz
            have hlt := (List.getElem?_eq_some_iff.1 hk).1
            have hk' : (st.ob ++ [Ob.arr [] e (tt e).size (tt e).bytes true])[k]? = some (.box row) := by rw [List.getElem?_append_left hlt]; exact hk
            obtain ⟨h1, ⟨t, ws, h2, h3⟩, h4⟩ := i1.obs k _ hk'
            have h3' := rput_nil h3 hg hp hv
            refine ⟨E.push 0 (.slice none 0 0), ?_, h.fr.mono hle, h.below, h.grew, h.had, h.defers⟩
            have i2 := i1.change (k := k) (o' := .box row') (row := none) (W' := W) (ob' := st.ob.set k (.box row') ++ [.arr [] e (tt e).size (tt e).bytes true]) id ((Env.le_refl _).but k) (by rw [i1.n]; simp) (fun j oj hj hoj => ⟨oj, ?_, by cases oj <;> rfl⟩) (by rw [List.getElem?_append_left (by simpa using hlt)]; simp [hlt]) (fun r ws hr => hr) ⟨rfl, rfl, rfl, Nat.le_refl _, fun _ _ _ => rfl⟩
              ⟨h1, ⟨t, ws, h2, h3'⟩, h4⟩ i1.mu (fun b o w hm => .inl hm) (fun g e => by cases e) (fun g hg j oj hj hoj hw => i1.apart k j _ oj g (Ne.symm hj) hk' hoj hg hw)
            · exact i2
            · rw [List.getElem?_append] at hoj ⊢
              simp only [List.length_set] at hoj
              split at hoj
              · rename_i hlt'
                rw [if_pos hlt', ← hoj, List.getElem?_set_ne (Ne.symm hj)]
              · rename_i hge
                rw [if_neg hge]; exact hoj
          · cases hx
        · cases hx
      · cases hx
    · cases hx

theorem nilAll_spec {B : Nat} {W0 : World} {m0 : Mem} {a : Act} {W : World} : ∀ {l : List NilAt} {E : Env} {st st' : St}, Sim B W0 m0 E st a W → nilAll st l = some st' → ∃ E', Sim B W0 m0 E' st' a W
  | [], E, _, _, h, hx => by cases hx; exact ⟨E, h⟩
  | x :: l, E, st, st', h, hx => by
    simp only [nilAll] at hx
    split at hx
    · rename_i st1 h1
      obtain ⟨E1, s1⟩ := nilOne_spec h h1
      exact nilAll_spec s1 hx
    · cases hx

theorem least {p : Nat → Prop} (h : ∃ n, p n) : ∃ n, p n ∧ ∀ m, p m → n ≤ m := by
  obtain ⟨n, hn⟩ := h
  induction n using Nat.strongRecOn with
  | _ n ih =>
    by_cases hm : ∃ m, m < n ∧ p m
    · obtain ⟨m, hlt, hp⟩ := hm
      exact ih m hlt hp
    · exact ⟨n, hn, fun m hp => Nat.le_of_not_lt fun hlt => hm ⟨m, hlt, hp⟩⟩

/-! ### Code -/
structure Kt where
  n : St → Prop
  x : Nat → St → Prop
  r : St → Prop

def setB (st : St) (c : Operand) (b : Bool) : St :=
  match c with
  | .tmp t => match st.fr[t]? with
    | some (.s (.p (.v (.bool _)))) => ⟨st.fr.set t (.s (.bl b)), st.ob⟩
    | _ => st
  | _ => st

def vcC (ar : Ar) (Γ : Contracts) : Code → St → Kt → Prop
  | .skip, st, κ => κ.n st
  | .label _, st, κ => κ.n st
  | .region _ ops dr, st, κ => match dr with
    | false => vcOps ar Γ ops.toList ops.toList st κ.n
    | true => vcDraws ar Γ ar.cked ops.toList st κ.n
  | .seq a b, st, κ => vcC ar Γ a st ⟨fun st' => vcC ar Γ b st' κ, κ.x, κ.r⟩
  | .cond c a b, st, κ => match st.ev 0 c with
    | .s (.bl t) => match t with
      | true => vcC ar Γ a st κ
      | false => vcC ar Γ b st κ
    | .s (.p (.v (.bool t))) => (t = true → vcC ar Γ a (setB st c true) κ) ∧ (t = false → vcC ar Γ b (setB st c false) κ)
    | _ => False
  | .block id b, st, κ => vcC ar Γ b st ⟨κ.n, fun i st' => match (i == id) with | true => κ.n st' | false => κ.x i st', κ.r⟩
  | .exit id, st, κ => κ.x id st
  | .ret, st, κ => κ.r st
  | .loop b, st, κ => ∃ (ι : Type) (I : ι → St) (m : ι → Nat) (cv : List NilAt) (st1 : St) (i0 : ι), nilAll st cv = some st1 ∧ fits st1 (I i0) ∧
      ∀ i, vcC ar Γ b (I i) ⟨fun st' => ∃ j, fits st' (I j) ∧ m j < m i, κ.x, κ.r⟩
  | _, _, _ => False

theorem Sim.setB {B : Nat} {W0 : World} {m0 : Mem} {E : Env} {st : St} {a : Act} {W : World} {c : Operand} {t : Bool} (h : Sim B W0 m0 E st a W) (hc : st.ev 0 c = .s (.p (.v (.bool t)))) : Sim B W0 m0 E (setB st c t) a W := by
  unfold Eng.setB
  split
  · rename_i i
    split
    · rename_i b hb
      have : b = t := by
        simp only [St.ev, hb] at hc
        simpa using hc
      subst this
      exact h.set hb
    · exact h
  · exact h

theorem vcC_spec {P : Program} (hT : TTok P) (hfs : Enters P) {B : Nat} {W0 : World} {m0 : Mem} : ∀ (c : Code) {Q : Exit → Act → World → Prop} {κ : Kt} {E : Env} {st : St} {a : Act} {W : World},
    (∀ E st a W, κ.n st → Sim B W0 m0 E st a W → Q .normal a W) → (∀ id E st a W, κ.x id st → Sim B W0 m0 E st a W → Q (.exit id) a W) → (∀ E st a W, κ.r st → Sim B W0 m0 E st a W → Q .ret a W) →
    Sim B W0 m0 E st a W → vcC arS (best P) c st κ → c.wp P Q a W := by
  intro c
  induction c with
  | skip => intro Q κ E st a W hn _ _ h hk; exact wp_skip (hn _ _ _ _ hk h)
  | label l => intro Q κ E st a W hn _ _ h hk; exact wp_label (hn _ _ _ _ hk h)
  | region id ops dr =>
    intro Q κ E st a W hn hx hr h hk
    cases dr with
    | false => exact wp_region_list (vcOps_spec hT hfs hn ops.toList h hk)
    | true => exact wp_region_draws hT hfs hn h hk
  | seq x y ihx ihy =>
    intro Q κ E st a W hn hx hr h hk
    refine wp_seq (ihx (κ := ⟨fun st' => vcC arS (best P) y st' κ, κ.x, κ.r⟩) (fun E st a W hk h => ?_) (fun id E st a W hk h => ?_) (fun E st a W hk h => ?_) h hk)
    · exact ihy hn hx hr h hk
    · exact hx _ _ _ _ _ hk h
    · exact hr _ _ _ _ hk h
  | cond c x y ihx ihy =>
    intro Q κ E st a W hn hx hr h hk
    have hc := RepS.ev h.fr 0 c
    simp only [vcC] at hk
    split at hk
    · rename_i t he
      rw [he] at hc
      have hc' : a.eval c = .bool t := hc
      split at hk
      · exact wp_cond_true hc' (ihx hn hx hr h hk)
      · exact wp_cond_false hc' (ihy hn hx hr h hk)
    · rename_i t he
      have hc2 := hc
      rw [he] at hc2
      have hc' : a.eval c = .bool t := hc2.1
      cases t with
      | true => exact wp_cond_true hc' (ihx hn hx hr (h.setB he) (hk.1 rfl))
      | false => exact wp_cond_false hc' (ihy hn hx hr (h.setB he) (hk.2 rfl))
    · exact hk.elim
  | block id b ih =>
    intro Q κ E st a W hn hx hr h hk
    refine wp_block (ih (κ := ⟨κ.n, fun i st' => match (i == id) with | true => κ.n st' | false => κ.x i st', κ.r⟩) (fun E st a W hk h => ?_) (fun i E st a W hk h => ?_) (fun E st a W hk h => ?_) h hk)
    · exact hn _ _ _ _ hk h
    · simp only [Exit.inBlock]
      by_cases e : i = id
      · rw [if_pos e]
        have : (i == id) = true := by simp [e]
        simp only [this] at hk
        exact hn _ _ _ _ hk h
      · rw [if_neg e]
        have : (i == id) = false := by simp [e]
        simp only [this] at hk
        exact hx _ _ _ _ _ hk h
    · exact hr _ _ _ _ hk h
  | exit id => intro Q κ E st a W hn hx hr h hk; exact wp_exit (hx _ _ _ _ _ hk h)
  | ret => intro Q κ E st a W hn hx hr h hk; exact wp_ret (hr _ _ _ _ hk h)
  | loop b ih =>
    intro Q κ E st a W hn hx hr h hk
    obtain ⟨ι, I, m, cv, st1, i0, hcv, h0, hround⟩ := hk
    obtain ⟨E1, h1⟩ := nilAll_spec h hcv
    have key : ∀ (a : Act) (W : World), (∃ i E, Sim B W0 m0 E (I i) a W) → ∃ i E, Sim B W0 m0 E (I i) a W ∧ ∀ j E', Sim B W0 m0 E' (I j) a W → m i ≤ m j := fun a W ⟨i, E, hi⟩ => by
      have hex : ∃ n, ∃ i E, m i = n ∧ Sim B W0 m0 E (I i) a W := ⟨m i, i, E, rfl, hi⟩
      obtain ⟨n, ⟨j, E', e, hj⟩, hmin⟩ := least hex
      exact ⟨j, E', hj, fun q E'' hq => by rw [e]; exact hmin _ ⟨q, E'', rfl, hq⟩⟩
    classical
    refine wp_loop (fun a W => ∃ i E, Sim B W0 m0 E (I i) a W) (fun a W => if hw : ∃ i E, Sim B W0 m0 E (I i) a W then m (key a W hw).choose else 0) ⟨i0, _, h1.fits h0⟩ fun a W hI => ?_
    have hmin := (key a W hI).choose_spec
    obtain ⟨E2, h2, hle⟩ := hmin
    have hmu : (if hw : ∃ i E, Sim B W0 m0 E (I i) a W then m (key a W hw).choose else 0) = m (key a W hI).choose := dif_pos hI
    rw [hmu]
    refine ih (κ := ⟨fun st' => ∃ j, fits st' (I j) ∧ m j < m (key a W hI).choose, κ.x, κ.r⟩) (fun E st a' W' hk h => ?_) (fun id E st a W hk h => ?_) (fun E st a W hk h => ?_) h2 (hround _)
    · obtain ⟨j, hf, hlt⟩ := hk
      have hI' : ∃ i E, Sim B W0 m0 E (I i) a' W' := ⟨j, _, h.fits hf⟩
      refine ⟨hI', ?_⟩
      rw [dif_pos hI']
      obtain ⟨E3, _, hle3⟩ := (key a' W' hI').choose_spec
      exact Nat.lt_of_le_of_lt (hle3 j _ (h.fits hf)) hlt
    · exact hx _ _ _ _ _ hk h
    · exact hr _ _ _ _ hk h
  | rangeFunc _ _ _ _ _ _ => intro Q κ E st a W hn hx hr h hk; exact False.elim hk
  | scope _ _ => intro Q κ E st a W hn hx hr h hk; exact False.elim hk
  | goto _ => intro Q κ E st a W hn hx hr h hk; exact False.elim hk
  | refuse _ => intro Q κ E st a W hn hx hr h hk; exact False.elim hk

/-! ### Functions -/
def resSV (st : St) : ResultVar → Option SV
  | .tmp t => st.fr[t]?
  | .cell p t => match st.fr[p]? with
    | some sp => match addrRow st sp with
      | some (row, off) => ldRow (tt t) row off
      | none => none
    | none => none

def resAll (st : St) : List ResultVar → Option (List SV)
  | [] => some []
  | r :: l => match resSV st r with
    | some v => match resAll st l with
      | some vs => some (v :: vs)
      | none => none
    | none => none

def retP (ar : Ar) (rs : List ResultVar) (k : List PR → Prop) (st : St) : Prop :=
  match resAll st rs with
  | some svs => match useAll ar st.ob svs with
    | some (prs, _) => k prs
    | none => False
  | none => False

/-- What a result is. -/
def rv (tmps : Array Value) : ResultVar → Sem Value
  | .tmp t => pure (tmps.getD t undef)
  | .cell p t => do loadVar t (← asAddr (tmps.getD p undef))

theorem run_results {P : Program} {W : World} {fn : Func} {tmps : Array Value} {vs : List Value} (h : (fn.results.toList.mapM (rv tmps)).run P W = .ok vs W) :
    (results fn tmps).run P W = .ok (if h : vs.toArray.size = 1 then vs.toArray[0] else .tuple vs.toArray) W := by
  have e : results fn tmps = (do
    let vs ← fn.results.mapM (rv tmps)
    pure (if h : vs.size = 1 then vs[0] else .tuple vs)) := rfl
  rw [e, ← Array.toArray_toList (xs := fn.results), List.mapM_toArray]
  simp only [Sem.run_bind, map_eq_pure_bind, h, Result.andThen_ok, Sem.run_pure]

theorem resSV_spec {P : Program} (hT : TTok P) {B : Nat} {E : Env} {st : St} {a : Act} {W : World} (h : Inv B E st.ob W) (hF : RepF E st.fr a.tmps.toList) {r : ResultVar} {sv : SV} (hr : resSV st r = some sv) :
    ∃ v, (rv a.tmps r).run P W = .ok v W ∧ RepS E sv v := by
  have slot : ∀ t sv, st.fr[t]? = some sv → RepS E sv (a.tmps.getD t undef) := fun t sv ht => by
    obtain ⟨w, hw, hs⟩ := hF.get t sv ht
    have : a.tmps.getD t undef = w := by
      rw [Array.getElem?_toList] at hw
      simp [hw]
    rw [this]; exact hs
  cases r with
  | tmp t => exact ⟨_, by simp only [rv, Sem.run_pure], slot t sv hr⟩
  | cell p t =>
    simp only [resSV] at hr
    split at hr
    · rename_i sp hp
      split at hr
      · rename_i row off ha
        obtain ⟨b, o, ws, e, hg, hc⟩ := addrRow_spec h (slot p sp hp) ha
        obtain ⟨v, h1, h2⟩ := run_load_row (P := P) hT hg hc hr
        refine ⟨v, ?_, h2⟩
        simp only [Instr.loadAt, Instr.sureAddr, Sem.run_bind, Sem.run_pure, Result.andThen_ok] at h1
        simp only [rv, e]
        simp [asAddr, h1 W (Keeps.refl W)]
      · cases hr
    · cases hr

theorem resAll_spec {P : Program} (hT : TTok P) {B : Nat} {E : Env} {st : St} {a : Act} {W : World} (h : Inv B E st.ob W) (hF : RepF E st.fr a.tmps.toList) : ∀ {rs : List ResultVar} {svs : List SV}, resAll st rs = some svs →
    ∃ vs : List Value, (rs.mapM (rv a.tmps)).run P W = .ok vs W ∧ RepF E svs vs
  | [], svs, hr => by cases hr; exact ⟨[], by simp, rfl⟩
  | r :: l, svs, hr => by
    simp only [resAll] at hr
    split at hr
    · rename_i v h1
      split at hr
      · rename_i vs h2
        cases hr
        obtain ⟨w, hw, hs⟩ := resSV_spec (P := P) hT h hF h1
        obtain ⟨ws, hws, hss⟩ := resAll_spec hT h hF h2
        refine ⟨w :: ws, ?_, w, ws, rfl, hs, hss⟩
        rw [List.mapM_cons]
        simp only [Sem.run_bind, hw, Result.andThen_ok, hws, Sem.run_pure]
      · cases hr
    · cases hr

def asSV : PR → SV
  | .s x => .s (.p x)
  | .a row => .a (segs row)

def slots0 (n : Nat) : List PR → List SV
  | [] => List.replicate n .un
  | r :: l => asSV r :: slots0 n l

def vcFun (ar : Ar) (Γ : Contracts) (fn : Func) (c : Code) (args : List PR) (k : List PR → Prop) : Prop :=
  vcC ar Γ c ⟨slots0 (fn.ntmps - args.length) args, []⟩ ⟨retP ar fn.results.toList k, fun _ _ => False, retP ar fn.results.toList k⟩

theorem slots0_rep {m : Mem} (n : Nat) : ∀ {args : List PR} {vs : List Value}, RepRs m args vs → RepF ⟨0, fun _ => 0, fun _ => undef, m⟩ (slots0 n args) (vs ++ List.replicate n undef)
  | [], vs, h => by
    rw [show vs = [] from h, List.nil_append]
    simp only [slots0]
    induction n with
    | zero => rfl
    | succ n ih => exact ⟨undef, _, rfl, trivial, ih⟩
  | r :: l, _, ⟨w, ws, e, hr, hl⟩ => by
    subst e
    refine ⟨w, _, rfl, ?_, slots0_rep n hl⟩
    cases r with
    | s x => exact hr
    | a row => obtain ⟨us, e, h⟩ := hr; exact ⟨us, e, RepG.of_pure h⟩

theorem RepRs.length {m : Mem} : ∀ {rs : List PR} {ws : List Value}, RepRs m rs ws → ws.length = rs.length
  | [], _, h => by rw [show _ = [] from h]; rfl
  | _ :: _, _, ⟨_, _, e, _, h⟩ => by rw [e]; simp [RepRs.length h]

/-- A function whose body asks no more than grants is sound for T. -/
theorem Sound.of_body {P : Program} (hT : TTok P) (hfs : Enters P) {f : FuncId} {fn : Func} {c : Code} {Tf : List PR → (List PR → Prop) → Prop} (hf : P.funcs[f]? = some fn) (hb : fn.body = some c)
    (h : ∀ ar, ar = arS → ∀ Γ, Γ = best P → ∀ args k, Tf args k → vcFun ar Γ fn c args k) : Sound P f Tf := by
  intro args k m W vs hm hr hT'
  have hvc := h arS rfl _ rfl args k hT'
  refine calls_of_wp hf hb ?_
  have hlen := hr.length
  have h0 : Sim W.heap.size W m ⟨0, fun _ => 0, fun _ => undef, m⟩ ⟨slots0 (fn.ntmps - args.length) args, []⟩ { tmps := vs.toArray ++ Array.replicate (fn.ntmps - vs.toArray.size) undef, defers := [] } W := by
    refine ⟨⟨Nat.le_refl _, rfl, hm, fun k o hk => by simp at hk, fun i j oi oj g hij hi => by simp at hi⟩, ?_, Below.refl _ _, fun b o w hm => .inl hm, Mem.le_refl _, rfl⟩
    have := slots0_rep (fn.ntmps - args.length) hr
    simpa [hlen] using this
  have fin : ∀ E st a W', retP arS fn.results.toList k st → Sim W.heap.size W m E st a W' → a.defers = [] ∧ ∃ v, (results fn a.tmps).run P W' = .ok v W' ∧ ∃ v' rs m', Ending.returned v = .returned v' ∧ k rs ∧ RepRes m' rs v' ∧ Mem.le m m' ∧ (∀ b o w, m' b o = some w → W'.cell? ⟨b, o, none⟩ = some w) ∧
      (∀ b o w, m' b o = some w → m b o = some w ∨ W.heap.size ≤ b) ∧ Below W.heap.size W W' := fun E st a W' hk hs => by
    unfold retP at hk
    split at hk
    · rename_i svs hsv
      split at hk
      · rename_i prs ob' hu
        obtain ⟨ws, hws, hF⟩ := resAll_spec (P := P) hT hs.inv hs.fr hsv
        obtain ⟨E', e1, i1, r1⟩ := useAll_spec hs.inv hF hu
        refine ⟨hs.defers, _, ?_, _, prs, E'.μ, rfl, hk, RepRes.of_list r1, Mem.le_trans hs.had e1.le.μ, i1.mu, fun b o w hm => (e1.grew b o w hm).elim (hs.grew b o w) .inr, hs.below⟩
        exact run_results hws
      · exact hk.elim
    · exact hk.elim
  refine vcC_spec hT hfs c (κ := ⟨retP arS fn.results.toList k, fun _ _ => False, retP arS fn.results.toList k⟩) (fun E st a W' hk hs => ?_) (fun id E st a W' hk hs => False.elim hk) (fun E st a W' hk hs => ?_) h0 hvc
  · exact fin E st a W' hk hs
  · exact fin E st a W' hk hs

/-- A frame of n slots, of which some are known. -/
def mk (n : Nat) : List (Nat × SV) → List SV
  | [] => List.replicate n .un
  | (i, v) :: l => (mk n l).set i v

abbrev pint (n : Int) : SV := .s (.p (.v (.int .i64 n)))

/-- At a call: a contract that is true, and what it asks. -/
theorem call_by {P : Program} {Γ : Contracts} {f : FuncId} {Ct : List PR → (List PR → Prop) → Prop} {args : List PR} {k : List PR → Prop} (hΓ : Γ = best P) (hS : Sound P f Ct) (h : Ct args k) : Γ f args k := by
  subst hΓ; exact ⟨Ct, hS, h⟩

end Go.Eng
