/-
  Code and functions: what a body asks; a function whose body is so asked is sound.
-/
import Derived.Test.YtejelaaocjfjbaaDoorEngI2
namespace Go.Eng
open Go Go.RowKit

/-- A slot, or a box's cell, that holds nil, is named an own slice of nothing. -/
inductive NilAt where
  | slot (s : Nat) (e : TypeId)
  | cell (k off : Nat) (e : TypeId)
  | frz (s : Nat)

/-- A slot's own slice is frozen: at the loop's start, and at the end of each round. -/
def frzOne (ar : Ar) (st : St) (s : Nat) : Option St :=
  match st.fr[s]? with
  | some (.s (.own k)) => match (CV.own k).use ar st.ob with
    | some (x, ob') => some ⟨st.fr.set s (.s (.p x)), ob'⟩
    | none => none
  | _ => none

def frzAll (ar : Ar) (st : St) : List NilAt → St
  | [] => st
  | .frz s :: l => match frzOne ar st s with
    | some st' => frzAll ar st' l
    | none => frzAll ar st l
  | .slot _ _ :: l => frzAll ar st l
  | .cell _ _ _ :: l => frzAll ar st l

def nilOne (ar : Ar) (st : St) : NilAt → Option St
  | .frz s => frzOne ar st s
  | .slot s e => match st.fr[s]? with
    | some (.s .nil) => if 0 < (tt e).size then some ⟨st.fr.set s (.s (.own st.ob.length)), st.ob ++ [.arr [] e (tt e).size (tt e).bytes true]⟩ else none
    | _ => none
  | .cell k off e => match st.ob[k]? with
    | some (.box row) => match rget row off with
      | some .nil => match rput row off (.own st.ob.length) with
        | some row' => if 0 < (tt e).size then some ⟨st.fr, st.ob.set k (.box row') ++ [.arr [] e (tt e).size (tt e).bytes true]⟩ else none
        | none => none
      | _ => none
    | _ => none

def nilAll (ar : Ar) (st : St) : List NilAt → Option St
  | [] => some st
  | x :: l => match nilOne ar st x with
    | some st' => nilAll ar st' l
    | none => none

theorem rput_nil {E : Env} : ∀ {row row' : List Seg} {ws : List Value} {off : Nat} {c : CV}, RepG E row ws → rget row off = some .nil → rput row off c = some row' → RepK E c (.slice none 0 0) → RepG E row' ws := fun {row row' ws off c} hr hg hp hk => by
  obtain ⟨w, hw, hn⟩ := hr.get hg
  have := (hr.put hp hk).1
  have e : ws.set off (.slice none 0 0) = ws := by
    refine List.ext_getElem? fun i => ?_
    rw [List.getElem?_set]
    split
    · rename_i h; subst h; split
      · rw [hw, show w = _ from hn]
      · rename_i hlt; rw [List.getElem?_eq_none (by omega)]
    · rfl
  rw [e] at this
  exact this

theorem Sim.reslot {B : Nat} {W0 : World} {m0 : Mem} {E : Env} {st : St} {a : Act} {W : World} {s : Nat} {sv : SV} {w : Value} (h : Sim B W0 m0 E st a W) (hw : a.tmps.toList[s]? = some w) (hs : RepS E sv w) : Sim B W0 m0 E ⟨st.fr.set s sv, st.ob⟩ a W := by
  refine ⟨h.inv, ?_, h.below, h.grew, h.had, h.defers⟩
  have := h.fr.set s sv w hs
  have e2 : a.tmps.toList.set s w = a.tmps.toList := by
    refine List.ext_getElem? fun i => ?_
    rw [List.getElem?_set]
    split
    · rename_i hdi; subst hdi; split
      · exact hw.symm
      · rename_i hlt; rw [List.getElem?_eq_none (by omega)]
    · rfl
  rw [e2] at this
  exact this

theorem frzOne_spec {B : Nat} {W0 : World} {m0 : Mem} {E : Env} {st st' : St} {a : Act} {W : World} {s : Nat} (h : Sim B W0 m0 E st a W) (hx : frzOne arS st s = some st') : ∃ E', Sim B W0 m0 E' st' a W := by
  unfold frzOne at hx
  split at hx
  · rename_i k hs
    split at hx
    · rename_i x ob' hu
      cases hx
      obtain ⟨w, hw, hk⟩ := h.fr.get s _ hs
      obtain ⟨E1, e1, i1, r1⟩ := CV.use_spec (c := .own k) h.inv hk hu
      exact ⟨E1, (h.ext e1 i1).reslot hw r1⟩
    · cases hx
  · cases hx

theorem frzAll_spec {B : Nat} {W0 : World} {m0 : Mem} {a : Act} {W : World} : ∀ {l : List NilAt} {E : Env} {st : St}, Sim B W0 m0 E st a W → ∃ E', Sim B W0 m0 E' (frzAll arS st l) a W
  | [], E, _, h => ⟨E, h⟩
  | .frz s :: l, E, st, h => by
    unfold frzAll
    split
    · rename_i st' hs
      obtain ⟨E1, h1⟩ := frzOne_spec h hs
      exact frzAll_spec h1
    · exact frzAll_spec h
  | .slot _ _ :: l, E, st, h => frzAll_spec (l := l) h
  | .cell _ _ _ :: l, E, st, h => frzAll_spec (l := l) h

theorem nilOne_spec {B : Nat} {W0 : World} {m0 : Mem} {E : Env} {st st' : St} {a : Act} {W : World} {x : NilAt} (h : Sim B W0 m0 E st a W) (hx : nilOne arS st x = some st') : ∃ E', Sim B W0 m0 E' st' a W := by
  have hn : st.ob.length = E.n := h.inv.n.symm
  have hle := E.le_push 0 (.slice none 0 0)
  have hv : RepK (E.push 0 (.slice none 0 0)) (.own st.ob.length) (.slice none 0 0) := ⟨by rw [hn]; exact Nat.lt_succ_self _, by rw [hn]; simp [Env.push], rfl⟩
  unfold nilOne at hx
  split at hx
  · exact frzOne_spec h hx
  · rename_i s e
    split at hx
    · rename_i hs
      split at hx
      · rename_i hsz
        cases hx
        refine ⟨_, h.inv.nilOwn hsz, ?_, h.below, h.grew, h.had, h.defers⟩
        obtain ⟨w, hw, hnil⟩ := h.fr.get s _ hs
        have e1 : w = .slice none 0 0 := hnil
        subst e1
        have := (h.fr.mono hle).set s (.s (.own st.ob.length)) (.slice none 0 0) hv
        have e2 : a.tmps.toList.set s (.slice none 0 0) = a.tmps.toList := by
          refine List.ext_getElem? fun i => ?_
          rw [List.getElem?_set]
          split
          · rename_i hdi; subst hdi; split
            · exact hw.symm
            · rename_i hlt; rw [List.getElem?_eq_none (by omega)]
          · rfl
        rw [e2] at this
        exact this
      · cases hx
    · cases hx
  · rename_i k off e
    split at hx
    · rename_i row hk
      split at hx
      · rename_i hg
        split at hx
        · rename_i row' hp
          split at hx
          · rename_i hsz
            cases hx
            have i1 := h.inv.nilOwn (e := e) (sz := (tt e).size) (bytes := (tt e).bytes) hsz
            have hlt := (List.getElem?_eq_some_iff.1 hk).1
            have hk' : (st.ob ++ [Ob.arr [] e (tt e).size (tt e).bytes true])[k]? = some (.box row) := by rw [List.getElem?_append_left hlt]; exact hk
            obtain ⟨h1, ⟨t, ws, h2, h3⟩, h4⟩ := i1.obs k _ hk'
            have h3' := rput_nil h3 hg hp hv
            refine ⟨E.push 0 (.slice none 0 0), ?_, h.fr.mono hle, h.below, h.grew, h.had, h.defers⟩
            have i2 := i1.change (k := k) (o' := .box row') (row := none) (W' := W) (ob' := st.ob.set k (.box row') ++ [.arr [] e (tt e).size (tt e).bytes true]) idS ((Env.le_refl _).but k) (by rw [i1.n]; simp) (fun j oj hj hoj => ⟨oj, ?_, by cases oj <;> rfl⟩) (by rw [List.getElem?_append_left (by simpa using hlt)]; simp [hlt]) (idS_ok (Env.le_refl _)) ⟨rfl, rfl, rfl, Nat.le_refl _, fun _ _ _ => rfl⟩
              ⟨h1, ⟨t, ws, h2, h3'⟩, h4⟩ i1.mu (fun b o w hm => .inl hm) (fun g e => by cases e) (fun g hg j oj hj hoj hw => i1.apart k j _ oj g (Ne.symm hj) hk' hoj hg hw)
            · exact i2
            · rw [List.getElem?_append] at hoj ⊢
              simp only [List.length_set] at hoj
              split at hoj
              · rename_i hlt'
                rw [if_pos hlt', ← hoj, List.getElem?_set_ne (Ne.symm hj)]
              · rename_i hge
                rw [if_neg hge]; exact hoj
          · cases hx
        · cases hx
      · cases hx
    · cases hx

theorem nilAll_spec {B : Nat} {W0 : World} {m0 : Mem} {a : Act} {W : World} : ∀ {l : List NilAt} {E : Env} {st st' : St}, Sim B W0 m0 E st a W → nilAll arS st l = some st' → ∃ E', Sim B W0 m0 E' st' a W
  | [], E, _, _, h, hx => by cases hx; exact ⟨E, h⟩
  | x :: l, E, st, st', h, hx => by
    simp only [nilAll] at hx
    split at hx
    · rename_i st1 h1
      obtain ⟨E1, s1⟩ := nilOne_spec h h1
      exact nilAll_spec s1 hx
    · cases hx

theorem least {p : Nat → Prop} (h : ∃ n, p n) : ∃ n, p n ∧ ∀ m, p m → n ≤ m := by
  obtain ⟨n, hn⟩ := h
  induction n using Nat.strongRecOn with
  | _ n ih =>
    by_cases hm : ∃ m, m < n ∧ p m
    · obtain ⟨m, hlt, hp⟩ := hm
      exact ih m hlt hp
    · exact ⟨n, hn, fun m hp => Nat.le_of_not_lt fun hlt => hm ⟨m, hlt, hp⟩⟩

/-! ### Code -/
def setB (st : St) (c : Operand) (b : Bool) : St :=
  match c with
  | .tmp t => match st.fr[t]? with
    | some (.s (.p (.v (.bool _)))) => ⟨st.fr.set t (.s (.bl b)), st.ob⟩
    | _ => st
  | _ => st

/-- So many rounds of a loop, one after another; then it has been left. -/
def unrollK (body : St → Kt → Prop) : Nat → St → Kt → Prop
  | 0, _, _ => False
  | n + 1, st, κ => body st ⟨fun st' => unrollK body n st' κ, κ.x, κ.r⟩

def vcC (ar : Ar) (Γ : Ctx) : Code → St → Kt → Prop
  | .skip, st, κ => κ.n st
  | .label _, st, κ => κ.n st
  | .region _ ops dr, st, κ => match dr with
    | false => vcOps true ar Γ ops.toList ops.toList st κ.n
    | true => vcDraws ar Γ ar.cked ops.toList st κ.n
  | .seq a b, st, κ => vcC ar Γ a st ⟨fun st' => vcC ar Γ b st' κ, κ.x, κ.r⟩
  | .cond c a b, st, κ => match st.ev 0 c with
    | .s (.bl t) => match t with
      | true => vcC ar Γ a st κ
      | false => vcC ar Γ b st κ
    | .s (.p (.v (.bool t))) => (t = true → vcC ar Γ a (setB st c true) κ) ∧ (t = false → vcC ar Γ b (setB st c false) κ)
    | _ => False
  | .block id b, st, κ => vcC ar Γ b st ⟨κ.n, fun i st' => match (i == id) with | true => κ.n st' | false => κ.x i st', κ.r⟩
  | .exit id, st, κ => κ.x id st
  | .ret, st, κ => κ.r st
  | .loop b, st, κ => (∃ n : Nat, unrollK (fun st κ => vcC ar Γ b st κ) n st κ) ∨ ∃ (ι : Type) (I : ι → St) (m : ι → Nat) (cv : List NilAt) (st1 : St) (i0 : ι), nilAll ar st cv = some st1 ∧ fits st1 (I i0) ∧
      ∀ i, vcC ar Γ b (I i) ⟨fun st' => ∃ j, fits (frzAll ar st' cv) (I j) ∧ m j < m i, κ.x, κ.r⟩
  | _, _, _ => False

theorem Sim.setB {B : Nat} {W0 : World} {m0 : Mem} {E : Env} {st : St} {a : Act} {W : World} {c : Operand} {t : Bool} (h : Sim B W0 m0 E st a W) (hc : st.ev 0 c = .s (.p (.v (.bool t)))) : Sim B W0 m0 E (setB st c t) a W := by
  unfold Eng.setB
  split
  · rename_i i
    split
    · rename_i b hb
      have : b = t := by
        simp only [St.ev, hb] at hc
        simpa using hc
      subst this
      exact h.set hb
    · exact h
  · exact h

theorem vcC_spec {P : Program} (hT : TTok P) (hfs : Enters P) {Γ : Ctx} (hG : Γ.Ok P) {B : Nat} {W0 : World} {m0 : Mem} : ∀ (c : Code) {Q : Exit → Act → World → Prop} {κ : Kt} {E : Env} {st : St} {a : Act} {W : World},
    (∀ E st a W, κ.n st → Sim B W0 m0 E st a W → Q .normal a W) → (∀ id E st a W, κ.x id st → Sim B W0 m0 E st a W → Q (.exit id) a W) → (∀ E st a W, κ.r st → Sim B W0 m0 E st a W → Q .ret a W) →
    Sim B W0 m0 E st a W → vcC arS Γ c st κ → c.wp P Q a W := by
  intro c
  induction c with
  | skip => intro Q κ E st a W hn _ _ h hk; exact wp_skip (hn _ _ _ _ hk h)
  | label l => intro Q κ E st a W hn _ _ h hk; exact wp_label (hn _ _ _ _ hk h)
  | region id ops dr =>
    intro Q κ E st a W hn hx hr h hk
    cases dr with
    | false => exact wp_region_list (vcOps_spec hT hfs hG hn ops.toList h hk)
    | true => exact wp_region_draws hT hfs hG hn h hk
  | seq x y ihx ihy =>
    intro Q κ E st a W hn hx hr h hk
    refine wp_seq (ihx (κ := ⟨fun st' => vcC arS Γ y st' κ, κ.x, κ.r⟩) (fun E st a W hk h => ?_) (fun id E st a W hk h => ?_) (fun E st a W hk h => ?_) h hk)
    · exact ihy hn hx hr h hk
    · exact hx _ _ _ _ _ hk h
    · exact hr _ _ _ _ hk h
  | cond c x y ihx ihy =>
    intro Q κ E st a W hn hx hr h hk
    have hc := RepS.ev h.fr 0 c
    simp only [vcC] at hk
    split at hk
    · rename_i t he
      rw [he] at hc
      have hc' : a.eval c = .bool t := hc
      split at hk
      · exact wp_cond_true hc' (ihx hn hx hr h hk)
      · exact wp_cond_false hc' (ihy hn hx hr h hk)
    · rename_i t he
      have hc2 := hc
      rw [he] at hc2
      have hc' : a.eval c = .bool t := hc2.1
      cases t with
      | true => exact wp_cond_true hc' (ihx hn hx hr (h.setB he) (hk.1 rfl))
      | false => exact wp_cond_false hc' (ihy hn hx hr (h.setB he) (hk.2 rfl))
    · exact hk.elim
  | block id b ih =>
    intro Q κ E st a W hn hx hr h hk
    refine wp_block (ih (κ := ⟨κ.n, fun i st' => match (i == id) with | true => κ.n st' | false => κ.x i st', κ.r⟩) (fun E st a W hk h => ?_) (fun i E st a W hk h => ?_) (fun E st a W hk h => ?_) h hk)
    · exact hn _ _ _ _ hk h
    · simp only [Exit.inBlock]
      by_cases e : i = id
      · rw [if_pos e]
        have : (i == id) = true := by simp [e]
        simp only [this] at hk
        exact hn _ _ _ _ hk h
      · rw [if_neg e]
        have : (i == id) = false := by simp [e]
        simp only [this] at hk
        exact hx _ _ _ _ _ hk h
    · exact hr _ _ _ _ hk h
  | exit id => intro Q κ E st a W hn hx hr h hk; exact wp_exit (hx _ _ _ _ _ hk h)
  | ret => intro Q κ E st a W hn hx hr h hk; exact wp_ret (hr _ _ _ _ hk h)
  | loop b ih =>
    intro Q κ E st a W hn hx hr h hk
    simp only [vcC] at hk
    rcases hk with ⟨n, hk⟩ | hk
    · have key : ∀ (n : Nat) {E : Env} {st : St} {a : Act} {W : World}, Sim B W0 m0 E st a W → unrollK (fun st κ => vcC arS Γ b st κ) n st κ → (Code.loop b).wp P Q a W := by
        intro n
        classical
        have hex : ∀ (a : Act) (W : World), (∃ k E st, Sim B W0 m0 E st a W ∧ unrollK (fun st κ => vcC arS Γ b st κ) k st κ) → ∃ k, (∃ E st, Sim B W0 m0 E st a W ∧ unrollK (fun st κ => vcC arS Γ b st κ) k st κ) ∧ ∀ q, (∃ E st, Sim B W0 m0 E st a W ∧ unrollK (fun st κ => vcC arS Γ b st κ) q st κ) → k ≤ q :=
          fun a W h => least h
        intro E st a W h hk
        refine wp_loop (fun a W => ∃ k E st, Sim B W0 m0 E st a W ∧ unrollK (fun st κ => vcC arS Γ b st κ) k st κ) (fun a W => if hw : ∃ k E st, Sim B W0 m0 E st a W ∧ unrollK (fun st κ => vcC arS Γ b st κ) k st κ then (hex a W hw).choose else 0) ⟨n, E, st, h, hk⟩ fun a W hI => ?_
        obtain ⟨⟨E2, st2, h2, hk2⟩, hmin⟩ := (hex a W hI).choose_spec
        rw [dif_pos hI]
        generalize (hex a W hI).choose = k at hk2 hmin
        cases k with
        | zero => exact hk2.elim
        | succ k =>
          refine ih (κ := ⟨fun st' => unrollK (fun st κ => vcC arS Γ b st κ) k st' κ, κ.x, κ.r⟩) (fun E st a' W' hk h => ?_) (fun id E st a W hk h => hx _ _ _ _ _ hk h) (fun E st a W hk h => hr _ _ _ _ hk h) h2 hk2
          have hI' : ∃ k E st, Sim B W0 m0 E st a' W' ∧ unrollK (fun st κ => vcC arS Γ b st κ) k st κ := ⟨k, E, st, h, hk⟩
          refine ⟨hI', ?_⟩
          rw [dif_pos hI']
          have := (hex a' W' hI').choose_spec.2 k ⟨E, st, h, hk⟩
          omega
      exact key n h hk
    obtain ⟨ι, I, m, cv, st1, i0, hcv, h0, hround⟩ := hk
    obtain ⟨E1, h1⟩ := nilAll_spec h hcv
    have key : ∀ (a : Act) (W : World), (∃ i E, Sim B W0 m0 E (I i) a W) → ∃ i E, Sim B W0 m0 E (I i) a W ∧ ∀ j E', Sim B W0 m0 E' (I j) a W → m i ≤ m j := fun a W ⟨i, E, hi⟩ => by
      have hex : ∃ n, ∃ i E, m i = n ∧ Sim B W0 m0 E (I i) a W := ⟨m i, i, E, rfl, hi⟩
      obtain ⟨n, ⟨j, E', e, hj⟩, hmin⟩ := least hex
      exact ⟨j, E', hj, fun q E'' hq => by rw [e]; exact hmin _ ⟨q, E'', rfl, hq⟩⟩
    classical
    refine wp_loop (fun a W => ∃ i E, Sim B W0 m0 E (I i) a W) (fun a W => if hw : ∃ i E, Sim B W0 m0 E (I i) a W then m (key a W hw).choose else 0) ⟨i0, _, h1.fits h0⟩ fun a W hI => ?_
    have hmin := (key a W hI).choose_spec
    obtain ⟨E2, h2, hle⟩ := hmin
    have hmu : (if hw : ∃ i E, Sim B W0 m0 E (I i) a W then m (key a W hw).choose else 0) = m (key a W hI).choose := dif_pos hI
    rw [hmu]
    refine ih (κ := ⟨fun st' => ∃ j, fits (frzAll arS st' cv) (I j) ∧ m j < m (key a W hI).choose, κ.x, κ.r⟩) (fun E st a' W' hk h => ?_) (fun id E st a W hk h => ?_) (fun E st a W hk h => ?_) h2 (hround _)
    · obtain ⟨j, hf, hlt⟩ := hk
      obtain ⟨E4, h⟩ := frzAll_spec (l := cv) h
      have hI' : ∃ i E, Sim B W0 m0 E (I i) a' W' := ⟨j, _, h.fits hf⟩
      refine ⟨hI', ?_⟩
      rw [dif_pos hI']
      obtain ⟨E3, _, hle3⟩ := (key a' W' hI').choose_spec
      exact Nat.lt_of_le_of_lt (hle3 j _ (h.fits hf)) hlt
    · exact hx _ _ _ _ _ hk h
    · exact hr _ _ _ _ hk h
  | rangeFunc _ _ _ _ _ _ => intro Q κ E st a W hn hx hr h hk; exact False.elim hk
  | scope _ _ => intro Q κ E st a W hn hx hr h hk; exact False.elim hk
  | goto _ => intro Q κ E st a W hn hx hr h hk; exact False.elim hk
  | refuse _ => intro Q κ E st a W hn hx hr h hk; exact False.elim hk

/-- What may be asked: true contracts; bodies; a body walked in place, d deep. -/
def bodyOf (P : Program) (f : FuncId) (fn : Func) (c : Code) : Prop := P.funcs[f]? = some fn ∧ fn.body = some c

def ctx (P : Program) : Nat → Ctx
  | 0 => ⟨best P, bodyOf P, fun _ _ _ => False⟩
  | d + 1 => ⟨best P, bodyOf P, vcC arS (ctx P d)⟩

theorem ctx_ok {P : Program} (hT : TTok P) (hfs : Enters P) : ∀ d, (ctx P d).Ok P
  | 0 => ⟨best_sound P, fun _ _ _ h => h, fun _ _ _ _ _ _ _ _ _ _ _ h => h.elim⟩
  | d + 1 => ⟨best_sound P, fun _ _ _ h => h, fun c _ _ _ _ _ _ hn hx hr hs h => vcC_spec hT hfs (ctx_ok hT hfs d) c hn hx hr hs h⟩

/-! ### Functions -/
def retP (ar : Ar) (rs : List ResultVar) (k : List PR → Prop) (st : St) : Prop :=
  match resAll st rs with
  | some svs => match useAll ar st.ob svs with
    | some (prs, _) => k prs
    | none => False
  | none => False

def asSV : PR → SV
  | .s x => .s (.p x)
  | .a row => .a (segs row)
  | .ao _ => .un

def slots0 (n : Nat) : List PR → List SV
  | [] => List.replicate n .un
  | r :: l => asSV r :: slots0 n l

/-- Arguments that are taken as known numbers. -/
def litF : List Bool → List SV → List SV
  | [], l => l
  | true :: bs, .s (.p (.v (.int k n))) :: l => .s (.lit k n) :: litF bs l
  | _ :: bs, x :: l => x :: litF bs l
  | _ :: _, [] => []

theorem litF_rep {E : Env} : ∀ (bs : List Bool) {xs : List SV} {ws : List Value}, RepF E xs ws → RepF E (litF bs xs) ws
  | [], _, _, h => h
  | true :: bs, [], _, h => h
  | false :: bs, [], _, h => h
  | false :: bs, x :: l, _, ⟨w, ws', e, hv, hr⟩ => ⟨w, ws', e, hv, litF_rep bs hr⟩
  | true :: bs, x :: l, _, ⟨w, ws', e, hv, hr⟩ => by
    unfold litF
    split
    · rename_i heq; cases heq
    · rename_i heq1 heq2
      cases heq1; cases heq2
      exact ⟨w, ws', e, hv.1, litF_rep _ hr⟩
    · rename_i heq1 heq2
      cases heq1; cases heq2
      exact ⟨w, ws', e, hv, litF_rep _ hr⟩
    · rename_i heq; cases heq

/-- Own slices among the results are handed out. -/
def retO (ar : Ar) (rs : List ResultVar) (k : List PR → Prop) (st : St) : Prop :=
  match resAll st rs with
  | some svs => match keepAll ar st.ob svs with
    | some (svs', ob') => match handAll ob' svs' with
      | some (prs, ks) => nodupB ks = true ∧ k prs
      | none => False
    | none => False
  | none => False

def vcFunO (bs : List Bool) (ar : Ar) (Γ : Ctx) (fn : Func) (c : Code) (args : List PR) (k : List PR → Prop) : Prop :=
  vcC ar Γ c ⟨litF bs (slots0 (fn.ntmps - args.length) args), []⟩ ⟨retO ar fn.results.toList k, fun _ _ => False, retO ar fn.results.toList k⟩

def vcFunL (bs : List Bool) (ar : Ar) (Γ : Ctx) (fn : Func) (c : Code) (args : List PR) (k : List PR → Prop) : Prop :=
  vcC ar Γ c ⟨litF bs (slots0 (fn.ntmps - args.length) args), []⟩ ⟨retP ar fn.results.toList k, fun _ _ => False, retP ar fn.results.toList k⟩

def vcFun (ar : Ar) (Γ : Ctx) (fn : Func) (c : Code) (args : List PR) (k : List PR → Prop) : Prop :=
  vcC ar Γ c ⟨slots0 (fn.ntmps - args.length) args, []⟩ ⟨retP ar fn.results.toList k, fun _ _ => False, retP ar fn.results.toList k⟩

theorem slots0_rep {m : Mem} (hg : GlobOk m) (n : Nat) : ∀ {args : List PR} {vs : List Value}, RepRs m args vs → RepF ⟨0, fun _ => 0, fun _ => undef, m, hg⟩ (slots0 n args) (vs ++ List.replicate n undef)
  | [], vs, h => by
    rw [show vs = [] from h, List.nil_append]
    simp only [slots0]
    induction n with
    | zero => rfl
    | succ n ih => exact ⟨undef, _, rfl, trivial, ih⟩
  | r :: l, _, ⟨w, ws, e, hr, hl⟩ => by
    subst e
    refine ⟨w, _, rfl, ?_, slots0_rep hg n hl⟩
    cases r with
    | s x => exact hr
    | a row => obtain ⟨us, e, h⟩ := hr; exact ⟨us, e, RepG.of_pure h⟩
    | ao row => exact False.elim hr

theorem RepRs.length {m : Mem} : ∀ {rs : List PR} {ws : List Value}, RepRs m rs ws → ws.length = rs.length
  | [], _, h => by rw [show _ = [] from h]; rfl
  | _ :: _, _, ⟨_, _, e, _, h⟩ => by rw [e]; simp [RepRs.length h]

/-- What stands behind a return. -/
abbrev RetOk (P : Program) (R : (List PR → Prop) → St → Prop) (rs : List ResultVar) : Prop :=
  ∀ {B : Nat} {E : Env} {st : St} {a : Act} {W : World} {k : List PR → Prop}, Inv B E st.ob W → RepF E st.fr a.tmps.toList → R k st →
    ∃ ws, (rs.mapM (rv a.tmps)).run P W = .ok ws W ∧ ∃ prs E' ob' F, Ext B E E' ∧ Inv B E' ob' W ∧ OwnRs B E'.μ W prs ws F ∧ F.Nodup ∧ k prs

theorem retP_ok {P : Program} (hT : TTok P) (rs : List ResultVar) : RetOk P (fun k st => retP arS rs k st) rs := fun {B E st a W k} hi hF hk => by
  simp only [retP] at hk
  split at hk
  · rename_i svs hsv
    split at hk
    · rename_i prs ob' hu
      obtain ⟨ws, hws, hF2⟩ := resAll_spec (P := P) hT hi hF hsv
      obtain ⟨E', e1, i1, r1⟩ := useAll_spec hi hF2 hu
      exact ⟨ws, hws, prs, E', ob', [], e1, i1, OwnRs.of_rep r1, List.nodup_nil, hk⟩
    · exact hk.elim
  · exact hk.elim

theorem retO_ok {P : Program} (hT : TTok P) (rs : List ResultVar) : RetOk P (fun k st => retO arS rs k st) rs := fun {B E st a W k} hi hF hk => by
  simp only [retO] at hk
  split at hk
  · rename_i svs hsv
    split at hk
    · rename_i svs' ob' hu
      split at hk
      · rename_i prs ks hh
        obtain ⟨ws, hws, hF2⟩ := resAll_spec (P := P) hT hi hF hsv
        obtain ⟨E', e1, i1, r1⟩ := keepAll_spec hi hF2 hu
        obtain ⟨a1, b1⟩ := handAll_spec i1 r1 hh
        exact ⟨ws, hws, prs, E', ob', blks E' ks, e1, i1, a1, blks_nodup i1 (nodupB_spec hk.1) b1, hk.2⟩
      · exact hk.elim
    · exact hk.elim
  · exact hk.elim

/-- A function whose body asks no more than grants is sound for T. -/
theorem Sound.of_ret (bs : List Bool) (d : Nat) {P : Program} (hT : TTok P) (hfs : Enters P) {f : FuncId} {fn : Func} {c : Code} {Tf : List PR → (List PR → Prop) → Prop} {R : (List PR → Prop) → St → Prop} (hf : P.funcs[f]? = some fn) (hb : fn.body = some c)
    (hR : RetOk P R fn.results.toList) (h : ∀ args k, Tf args k → vcC arS (ctx P d) c ⟨litF bs (slots0 (fn.ntmps - args.length) args), []⟩ ⟨R k, fun _ _ => False, R k⟩) : Sound P f Tf := by
  intro args k m W vs hg hm hr hT'
  have hvc := h args k hT'
  refine calls_of_wp hf hb ?_
  have hlen := hr.length
  have h0 : Sim W.heap.size W m ⟨0, fun _ => 0, fun _ => undef, m, hg⟩ ⟨litF bs (slots0 (fn.ntmps - args.length) args), []⟩ { tmps := vs.toArray ++ Array.replicate (fn.ntmps - vs.toArray.size) undef, defers := [] } W := by
    refine ⟨⟨Nat.le_refl _, rfl, hm, fun k o hk => by simp at hk, fun i j oi oj g hij hi => by simp at hi⟩, ?_, Below.refl _ _, fun b o w hm => .inl hm, Mem.le_refl _, rfl⟩
    have := litF_rep bs (slots0_rep hg (fn.ntmps - args.length) hr)
    simpa [hlen] using this
  have fin : ∀ E st a W', R k st → Sim W.heap.size W m E st a W' → a.defers = [] ∧ ∃ v, (results fn a.tmps).run P W' = .ok v W' ∧ ∃ v' rs m' F, Ending.returned v = .returned v' ∧ k rs ∧ OwnRes W.heap.size m' W' rs v' F ∧ F.Nodup ∧ Mem.le m m' ∧ (∀ b o w, m' b o = some w → W'.cell? ⟨b, o, none⟩ = some w) ∧
      (∀ b o w, m' b o = some w → m b o = some w ∨ W.heap.size ≤ b) ∧ Below W.heap.size W W' := fun E st a W' hk hs => by
    obtain ⟨ws, hws, prs, E', ob', F, e1, i1, r1, hnd, hk'⟩ := hR hs.inv hs.fr hk
    exact ⟨hs.defers, _, run_results hws, _, prs, E'.μ, F, rfl, hk', OwnRes.of_list r1, hnd, Mem.le_trans hs.had e1.le.μ, i1.mu, fun b o w hm => (e1.grew b o w hm).elim (hs.grew b o w) .inr, hs.below⟩
  refine vcC_spec hT hfs (ctx_ok hT hfs d) c (κ := ⟨R k, fun _ _ => False, R k⟩) (fun E st a W' hk hs => ?_) (fun id E st a W' hk hs => False.elim hk) (fun E st a W' hk hs => ?_) h0 hvc
  · exact fin E st a W' hk hs
  · exact fin E st a W' hk hs

theorem Sound.of_bodyL (bs : List Bool) (d : Nat) {P : Program} (hT : TTok P) (hfs : Enters P) {f : FuncId} {fn : Func} {c : Code} {Tf : List PR → (List PR → Prop) → Prop} (hf : P.funcs[f]? = some fn) (hb : fn.body = some c)
    (h : ∀ ar, ar = arS → ∀ Γ, Γ = ctx P d → ∀ args k, Tf args k → vcFunL bs ar Γ fn c args k) : Sound P f Tf :=
  Sound.of_ret bs d hT hfs hf hb (retP_ok hT _) fun args k hk => h arS rfl _ rfl args k hk

/-- The same, own slices handed out. -/
theorem Sound.of_bodyO (bs : List Bool) (d : Nat) {P : Program} (hT : TTok P) (hfs : Enters P) {f : FuncId} {fn : Func} {c : Code} {Tf : List PR → (List PR → Prop) → Prop} (hf : P.funcs[f]? = some fn) (hb : fn.body = some c)
    (h : ∀ ar, ar = arS → ∀ Γ, Γ = ctx P d → ∀ args k, Tf args k → vcFunO bs ar Γ fn c args k) : Sound P f Tf :=
  Sound.of_ret bs d hT hfs hf hb (retO_ok hT _) fun args k hk => h arS rfl _ rfl args k hk

theorem Sound.of_bodyI (d : Nat) {P : Program} (hT : TTok P) (hfs : Enters P) {f : FuncId} {fn : Func} {c : Code} {Tf : List PR → (List PR → Prop) → Prop} (hf : P.funcs[f]? = some fn) (hb : fn.body = some c)
    (h : ∀ ar, ar = arS → ∀ Γ, Γ = ctx P d → ∀ args k, Tf args k → vcFun ar Γ fn c args k) : Sound P f Tf := Sound.of_bodyL [] d hT hfs hf hb h

theorem Sound.of_body {P : Program} (hT : TTok P) (hfs : Enters P) {f : FuncId} {fn : Func} {c : Code} {Tf : List PR → (List PR → Prop) → Prop} (hf : P.funcs[f]? = some fn) (hb : fn.body = some c)
    (h : ∀ ar, ar = arS → ∀ Γ, Γ = ctx P 0 → ∀ args k, Tf args k → vcFun ar Γ fn c args k) : Sound P f Tf := Sound.of_bodyI 0 hT hfs hf hb h

/-- A frame of n slots, of which some are known. -/
def mk (n : Nat) : List (Nat × SV) → List SV
  | [] => List.replicate n .un
  | (i, v) :: l => (mk n l).set i v

abbrev pint (n : Int) : SV := .s (.p (.v (.int .i64 n)))

theorem ctx_g {P : Program} : ∀ {d : Nat} {f : FuncId} {args : List PR} {k : List PR → Prop}, best P f args k → (ctx P d).g f args k
  | 0, _, _, _, h => h
  | _ + 1, _, _, _, h => h
theorem ctx_bd {P : Program} : ∀ {d : Nat} {f : FuncId} {fn : Func} {c : Code}, bodyOf P f fn c → (ctx P d).bd f fn c
  | 0, _, _, _, h => h
  | _ + 1, _, _, _, h => h

/-- At a call: a contract that is true, and what it asks. -/
theorem call_by {P : Program} {Γ : Ctx} {d : Nat} {f : FuncId} {Ct : List PR → (List PR → Prop) → Prop} {args : List PR} {k : List PR → Prop} {R : Prop} (hΓ : Γ = ctx P d) (hS : Sound P f Ct) (h : Ct args k) : Γ.g f args k ∨ R := by
  subst hΓ; exact .inl (ctx_g ⟨Ct, hS, h⟩)

/-- The same in a region that draws its order. -/
theorem call_by' {P : Program} {Γ : Ctx} {d : Nat} {f : FuncId} {Ct : List PR → (List PR → Prop) → Prop} {args : List PR} {k : List PR → Prop} (hΓ : Γ = ctx P d) (hS : Sound P f Ct) (h : Ct args k) : Γ.g f args k := by
  subst hΓ; exact ctx_g ⟨Ct, hS, h⟩

/-- At a call: what is handed to it stays the caller's own. -/
theorem call_bor {P : Program} {Γ : Ctx} {d : Nat} {f : FuncId} {Ct : List PR → (List PR → Prop) → Prop} {args : List PR} {k : List PR → Prop} {L R : Prop} (hΓ : Γ = ctx P d) (hS : Sound P f Ct) (h : Ct args k) : L ∨ (Γ.g f args k ∨ R) := by
  subst hΓ; exact .inr (.inl (ctx_g ⟨Ct, hS, h⟩))

/-- At a call: the body is walked in place. -/
theorem call_in {P : Program} {ar : Ar} {Γ : Ctx} {d : Nat} {f : FuncId} {fn : Func} {c : Code} {st : List Value → Func → St} {κ : List Value → Func → Kt} {L L2 : Prop} (har : ar = arS) (hΓ : Γ = ctx P (d + 1)) (hf : P.funcs[f]? = some fn) (hb : fn.body = some c)
    (h : ∀ Γ', Γ' = ctx P d → ∀ vs, vcC ar Γ' c (st vs fn) (κ vs fn)) : L ∨ (L2 ∨ ∃ fn c, Γ.bd f fn c ∧ ∀ vs, Γ.inl c (st vs fn) (κ vs fn)) := by
  subst hΓ; subst har
  exact .inr (.inr ⟨fn, c, ⟨hf, hb⟩, fun vs => h _ rfl vs⟩)

end Go.Eng
