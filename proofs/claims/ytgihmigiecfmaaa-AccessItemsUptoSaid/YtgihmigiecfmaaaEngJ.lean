/-
  Code and functions: what a body asks; a function whose body is so asked is sound.
-/
import Derived.Scope
import Derived.Test.YtgihmigiecfmaaaEngI2
namespace Go.Eng
open Go Go.RowKit

/-- A slot, or a box's cell, that holds nil, is named an own slice of nothing (nest: of rows with own slices). -/
inductive NilAt where
  | slot (s : Nat) (e : TypeId)
  | cell (k off : Nat) (e : TypeId)
  | frz (s : Nat)
  | nest (s : Nat) (e : TypeId)
  | settle (j : Nat)
  | fbx (k : Nat)
  | fcl (k off : Nat)
  | tre (s : Nat)
  | treb (k : Nat)
  | ntre (s : Nat) (e : TypeId)
  | put (j : Nat)

/-- A slot's own slice (own slices in a slot's row) is frozen: at the loop's start, and at the end of each round. -/
def frzOne (ar : Ar) (st : St) (s : Nat) : Option St :=
  match st.fr[s]? with
  | some (.s (.own k)) => match (CV.own k).use ar st.ob with
    | some (x, ob') => some ⟨st.fr.set s (.s (.p x)), ob'⟩
    | none => none
  | some (.a row) => match useRow ar st.ob row with
    | some (ps, ob') => some ⟨st.fr.set s (.a (segs ps)), ob'⟩
    | none => none
  | _ => none

/-- What stands in a row of an own slice becomes the row's own. -/
def setOne (ar : Ar) (st : St) (j : Nat) : Option St :=
  match st.ob[j]? with
  | some (.nest xs e sz by_ (some (i, off, q, row))) => match st.ob[q]? with
    | some (.arr ys te tsz tb true) => match pcget row off with
      | some _ => some ⟨st.fr, (st.ob.set q .gone).set j (.nest (ar.setx xs i (pcput row off (.ow ys te tsz tb))) e sz by_ none)⟩
      | none => none
    | _ => none
  | _ => none

/-- What a box names is frozen. -/
def fbxOne (ar : Ar) (st : St) (k : Nat) : Option St :=
  match st.ob[k]? with
  | some (.box row) => match useRow ar st.ob row with
    | some (ps, ob') => match ob'[k]? with
      | some (.box _) => some ⟨st.fr, ob'.set k (.box (segs ps))⟩
      | _ => none
    | none => none
  | _ => none

/-- The own slice that a box's cell names is frozen. -/
def fclOne (ar : Ar) (st : St) (k off : Nat) : Option St :=
  match st.ob[k]? with
  | some (.box row) => match rget row off with
    | some (.own q) => match (CV.own q).use ar st.ob with
      | some (x, ob') => match rput row off (.p x) with
        | some row' => match ob'[k]? with
          | some (.box _) => some ⟨st.fr, ob'.set k (.box row')⟩
          | _ => none
        | none => none
      | none => none
    | _ => none
  | _ => none

def frzAll (ar : Ar) (st : St) : List NilAt → St
  | [] => st
  | .frz s :: l => match frzOne ar st s with
    | some st' => frzAll ar st' l
    | none => frzAll ar st l
  | .settle j :: l => match setOne ar st j with
    | some st' => frzAll ar st' l
    | none => frzAll ar st l
  | .fbx k :: l => match fbxOne ar st k with
    | some st' => frzAll ar st' l
    | none => frzAll ar st l
  | .fcl k off :: l => match fclOne ar st k off with
    | some st' => frzAll ar st' l
    | none => frzAll ar st l
  | .put j :: l => match putOne ar st j with
    | some st' => frzAll ar st' l
    | none => frzAll ar st l
  | .slot _ _ :: l => frzAll ar st l
  | .cell _ _ _ :: l => frzAll ar st l
  | .nest _ _ :: l => frzAll ar st l
  | .tre _ :: l => frzAll ar st l
  | .treb _ :: l => frzAll ar st l
  | .ntre _ _ :: l => frzAll ar st l

def nilOne (ar : Ar) (st : St) : NilAt → Option St
  | .frz s => frzOne ar st s
  | .settle j => setOne ar st j
  | .fbx k => fbxOne ar st k
  | .fcl k off => fclOne ar st k off
  | .put j => putOne ar st j
  | .tre s => treOne st s
  | .treb k => treOb st k
  | .ntre s e => match st.fr[s]? with
    | some (.s .nil) => if 0 < (tt e).size then some ⟨st.fr.set s (.s (.own st.ob.length)), st.ob ++ [.tre [] [] e (tt e).size (tt e).bytes none]⟩ else none
    | _ => none
  | .nest s e => match st.fr[s]? with
    | some (.s .nil) => if 0 < (tt e).size then some ⟨st.fr.set s (.s (.own st.ob.length)), st.ob ++ [.nest [] e (tt e).size (tt e).bytes none]⟩ else none
    | _ => none
  | .slot s e => match st.fr[s]? with
    | some (.s .nil) => if 0 < (tt e).size then some ⟨st.fr.set s (.s (.own st.ob.length)), st.ob ++ [.arr [] e (tt e).size (tt e).bytes true]⟩ else none
    | _ => none
  | .cell k off e => match st.ob[k]? with
    | some (.box row) => match rget row off with
      | some .nil => match rput row off (.own st.ob.length) with
        | some row' => if 0 < (tt e).size then some ⟨st.fr, st.ob.set k (.box row') ++ [.arr [] e (tt e).size (tt e).bytes true]⟩ else none
        | none => none
      | _ => none
    | _ => none

def nilAll (ar : Ar) (st : St) : List NilAt → Option St
  | [] => some st
  | x :: l => match nilOne ar st x with
    | some st' => nilAll ar st' l
    | none => none

theorem rput_nil {E : Env} : ∀ {row row' : List Seg} {ws : List Value} {off : Nat} {c : CV}, RepG E row ws → rget row off = some .nil → rput row off c = some row' → RepK E c (.slice none 0 0) → RepG E row' ws := fun {row row' ws off c} hr hg hp hk => by
  obtain ⟨w, hw, hn⟩ := hr.get hg
  have := (hr.put hp hk).1
  have e : ws.set off (.slice none 0 0) = ws := by
    refine List.ext_getElem? fun i => ?_
    rw [List.getElem?_set]
    split
    · rename_i h; subst h; split
      · rw [hw, show w = _ from hn]
      · rename_i hlt; rw [List.getElem?_eq_none (by omega)]
    · rfl
  rw [e] at this
  exact this

theorem Sim.reslot {B : Nat} {W0 : World} {m0 : Mem} {E : Env} {st : St} {a : Act} {W : World} {s : Nat} {sv : SV} {w : Value} (h : Sim B W0 m0 E st a W) (hw : a.tmps.toList[s]? = some w) (hs : RepS E sv w) : Sim B W0 m0 E ⟨st.fr.set s sv, st.ob⟩ a W := by
  refine ⟨h.inv, ?_, h.below, h.grew, h.had, h.defers⟩
  have := h.fr.set s sv w hs
  have e2 : a.tmps.toList.set s w = a.tmps.toList := by
    refine List.ext_getElem? fun i => ?_
    rw [List.getElem?_set]
    split
    · rename_i hdi; subst hdi; split
      · exact hw.symm
      · rename_i hlt; rw [List.getElem?_eq_none (by omega)]
    · rfl
  rw [e2] at this
  exact this

theorem frzOne_spec {B : Nat} {W0 : World} {m0 : Mem} {E : Env} {st st' : St} {a : Act} {W : World} {s : Nat} (h : Sim B W0 m0 E st a W) (hx : frzOne arS st s = some st') : ∃ E', Sim B W0 m0 E' st' a W := by
  unfold frzOne at hx
  split at hx
  · rename_i k hs
    split at hx
    · rename_i x ob' hu
      cases hx
      obtain ⟨w, hw, hk⟩ := h.fr.get s _ hs
      obtain ⟨E1, e1, i1, r1⟩ := CV.use_spec (c := .own k) h.inv hk hu
      exact ⟨E1, (h.ext e1 i1).reslot hw r1⟩
    · cases hx
  · rename_i row hs
    split at hx
    · rename_i ps ob' hu
      cases hx
      obtain ⟨w, hw, ws, ew, hk⟩ := h.fr.get s _ hs
      obtain ⟨E1, e1, i1, r1⟩ := useRow_spec h.inv hk hu
      exact ⟨E1, (h.ext e1 i1).reslot hw ⟨ws, ew, RepG.of_pure r1⟩⟩
    · cases hx
  · cases hx

theorem setOne_spec {B : Nat} {W0 : World} {m0 : Mem} {E : Env} {st st' : St} {a : Act} {W : World} {j : Nat} (h : Sim B W0 m0 E st a W) (hx : setOne arS st j = some st') : ∃ E', Sim B W0 m0 E' st' a W := by
  unfold setOne at hx
  split at hx
  · rename_i xs e sz by_ i off q row hj
    split at hx
    · rename_i ys te tsz tb hq
      split at hx
      · rename_i x0 hc
        cases hx
        obtain ⟨E', e1, e2, i1⟩ := h.inv.nestSettle hj hq hc
        exact ⟨E', i1, h.fr.mono e1, h.below, by rw [e2]; exact h.grew, by rw [e2]; exact h.had, h.defers⟩
      · cases hx
    · cases hx
  · cases hx

theorem fbxOne_spec {B : Nat} {W0 : World} {m0 : Mem} {E : Env} {st st' : St} {a : Act} {W : World} {k : Nat} (h : Sim B W0 m0 E st a W) (hx : fbxOne arS st k = some st') : ∃ E', Sim B W0 m0 E' st' a W := by
  unfold fbxOne at hx
  split at hx
  · rename_i row hk
    split at hx
    · rename_i ps ob' hu
      split at hx
      · rename_i row2 hk2
        cases hx
        have hkn : k < E.n := by rw [h.inv.n]; exact (List.getElem?_eq_some_iff.1 hk).1
        obtain ⟨h1, ⟨t, ws, h2, h3⟩, h4⟩ := h.inv.obs k _ hk
        obtain ⟨E1, e1, i1, r1⟩ := useRow_spec h.inv h3 hu
        have hs := h.ext e1 i1
        obtain ⟨a1, ⟨t2, ws2, a2, a3⟩, a4⟩ := i1.obs k _ hk2
        have hlt := (List.getElem?_eq_some_iff.1 hk2).1
        refine ⟨E1, ?_, hs.fr, hs.below, hs.grew, hs.had, hs.defers⟩
        refine i1.change (k := k) (o' := .box (segs ps)) (row := none) idS ((Env.le_refl E1).but k) (by simp [i1.n]) (fun j oj hj hoj => ⟨oj, ?_, by cases oj <;> rfl⟩) (by simp [hlt]) (idS_ok (Env.le_refl _)) (grownBy_refl _ _)
          ⟨a1, ⟨t, ws, by rw [e1.le.ρ k hkn]; exact h2, RepG.of_pure r1⟩, a4⟩ i1.mu (fun b o w hm => .inl hm) (fun g e => by cases e) (fun g hg j oj hj hoj hw => i1.apart k j _ oj g (Ne.symm hj) hk2 hoj hg hw)
        rw [List.getElem?_set_ne (Ne.symm hj)] at hoj; exact hoj
      · cases hx
    · cases hx
  · cases hx

theorem fclOne_spec {B : Nat} {W0 : World} {m0 : Mem} {E : Env} {st st' : St} {a : Act} {W : World} {k off : Nat} (h : Sim B W0 m0 E st a W) (hx : fclOne arS st k off = some st') : ∃ E', Sim B W0 m0 E' st' a W := by
  unfold fclOne at hx
  split at hx
  · rename_i row hk
    split at hx
    · rename_i q hq
      split at hx
      · rename_i x ob' hu
        split at hx
        · rename_i row' hp
          split at hx
          · rename_i row2 hk2
            cases hx
            have hkn : k < E.n := by rw [h.inv.n]; exact (List.getElem?_eq_some_iff.1 hk).1
            obtain ⟨h1, ⟨t, ws, h2, h3⟩, h4⟩ := h.inv.obs k _ hk
            obtain ⟨w, hw, hkw⟩ := h3.get hq
            obtain ⟨E1, e1, i1, r1⟩ := CV.use_spec h.inv hkw hu
            have hs := h.ext e1 i1
            obtain ⟨a1, _, a4⟩ := i1.obs k _ hk2
            have hlt := (List.getElem?_eq_some_iff.1 hk2).1
            have hrow := ((h3.mono e1.le).put hp (show RepK E1 (.p x) w from r1)).1
            have eset : ws.set off w = ws := by
              refine List.ext_getElem? fun i => ?_
              rw [List.getElem?_set]
              split
              · rename_i hdi; subst hdi; split
                · exact hw.symm
                · rename_i hlt; rw [List.getElem?_eq_none (by omega)]
              · rfl
            rw [eset] at hrow
            refine ⟨E1, ?_, hs.fr, hs.below, hs.grew, hs.had, hs.defers⟩
            refine i1.change (k := k) (o' := .box row') (row := none) idS ((Env.le_refl E1).but k) (by simp [i1.n]) (fun j oj hj hoj => ⟨oj, ?_, by cases oj <;> rfl⟩) (by simp [hlt]) (idS_ok (Env.le_refl _)) (grownBy_refl _ _)
              ⟨a1, ⟨t, ws, by rw [e1.le.ρ k hkn]; exact h2, hrow⟩, a4⟩ i1.mu (fun b o w hm => .inl hm) (fun g e => by cases e) (fun g hg j oj hj hoj hw => i1.apart k j _ oj g (Ne.symm hj) hk2 hoj hg hw)
            rw [List.getElem?_set_ne (Ne.symm hj)] at hoj; exact hoj
          · cases hx
        · cases hx
      · cases hx
    · cases hx
  · cases hx

theorem frzAll_spec {B : Nat} {W0 : World} {m0 : Mem} {a : Act} {W : World} : ∀ {l : List NilAt} {E : Env} {st : St}, Sim B W0 m0 E st a W → ∃ E', Sim B W0 m0 E' (frzAll arS st l) a W
  | [], E, _, h => ⟨E, h⟩
  | .frz s :: l, E, st, h => by
    unfold frzAll
    split
    · rename_i st' hs
      obtain ⟨E1, h1⟩ := frzOne_spec h hs
      exact frzAll_spec h1
    · exact frzAll_spec h
  | .settle j :: l, E, st, h => by
    unfold frzAll
    split
    · rename_i st' hs
      obtain ⟨E1, h1⟩ := setOne_spec h hs
      exact frzAll_spec h1
    · exact frzAll_spec h
  | .fbx k :: l, E, st, h => by
    unfold frzAll
    split
    · rename_i st' hs
      obtain ⟨E1, h1⟩ := fbxOne_spec h hs
      exact frzAll_spec h1
    · exact frzAll_spec h
  | .fcl k off :: l, E, st, h => by
    unfold frzAll
    split
    · rename_i st' hs
      obtain ⟨E1, h1⟩ := fclOne_spec h hs
      exact frzAll_spec h1
    · exact frzAll_spec h
  | .put j :: l, E, st, h => by
    unfold frzAll
    split
    · rename_i st' hs
      obtain ⟨E1, h1⟩ := putOne_spec h hs
      exact frzAll_spec h1
    · exact frzAll_spec h
  | .tre _ :: l, E, st, h => frzAll_spec (l := l) h
  | .treb _ :: l, E, st, h => frzAll_spec (l := l) h
  | .ntre _ _ :: l, E, st, h => frzAll_spec (l := l) h
  | .slot _ _ :: l, E, st, h => frzAll_spec (l := l) h
  | .cell _ _ _ :: l, E, st, h => frzAll_spec (l := l) h
  | .nest _ _ :: l, E, st, h => frzAll_spec (l := l) h

theorem nilOne_spec {B : Nat} {W0 : World} {m0 : Mem} {E : Env} {st st' : St} {a : Act} {W : World} {x : NilAt} (h : Sim B W0 m0 E st a W) (hx : nilOne arS st x = some st') : ∃ E', Sim B W0 m0 E' st' a W := by
  have hn : st.ob.length = E.n := h.inv.n.symm
  have hle := E.le_push 0 (.slice none 0 0)
  have hv : RepK (E.push 0 (.slice none 0 0)) (.own st.ob.length) (.slice none 0 0) := ⟨by rw [hn]; exact Nat.lt_succ_self _, by rw [hn]; simp [Env.push], rfl⟩
  unfold nilOne at hx
  split at hx
  · exact frzOne_spec h hx
  · exact setOne_spec h hx
  · exact fbxOne_spec h hx
  · exact fclOne_spec h hx
  · exact putOne_spec h hx
  · exact treOne_spec h hx
  · exact treOb_spec h hx
  · rename_i s e
    split at hx
    · rename_i hs
      split at hx
      · rename_i hsz
        cases hx
        have hle2 := Env.le_trans (E.le_push ((Value.slice none 0 0).ownBlock.getD 0) (.slice none 0 0)) ((E.push ((Value.slice none 0 0).ownBlock.getD 0) (.slice none 0 0)).le_bls E.n [])
        refine ⟨_, h.inv.nilTre hsz, ?_, h.below, h.grew, h.had, h.defers⟩
        obtain ⟨w, hw, hnil⟩ := h.fr.get s _ hs
        have e1 : w = .slice none 0 0 := hnil
        subst e1
        have hv2 : RepK ((E.push ((Value.slice none 0 0).ownBlock.getD 0) (.slice none 0 0)).bls E.n []) (.own st.ob.length) (.slice none 0 0) := ⟨by rw [hn]; exact Nat.lt_succ_self _, by rw [hn]; simp [Env.push, Env.bls], rfl⟩
        have := (h.fr.mono hle2).set s (.s (.own st.ob.length)) (.slice none 0 0) hv2
        have e2 : a.tmps.toList.set s (.slice none 0 0) = a.tmps.toList := by
          refine List.ext_getElem? fun i => ?_
          rw [List.getElem?_set]
          split
          · rename_i hdi; subst hdi; split
            · exact hw.symm
            · rename_i hlt; rw [List.getElem?_eq_none (by omega)]
          · rfl
        rw [e2] at this
        exact this
      · cases hx
    · cases hx
  · rename_i s e
    split at hx
    · rename_i hs
      split at hx
      · rename_i hsz
        cases hx
        have hle2 := Env.le_trans hle ((E.push 0 (.slice none 0 0)).le_bls E.n [])
        refine ⟨_, h.inv.nilNest hsz, ?_, h.below, h.grew, h.had, h.defers⟩
        obtain ⟨w, hw, hnil⟩ := h.fr.get s _ hs
        have e1 : w = .slice none 0 0 := hnil
        subst e1
        have := (h.fr.mono hle2).set s (.s (.own st.ob.length)) (.slice none 0 0) hv
        have e2 : a.tmps.toList.set s (.slice none 0 0) = a.tmps.toList := by
          refine List.ext_getElem? fun i => ?_
          rw [List.getElem?_set]
          split
          · rename_i hdi; subst hdi; split
            · exact hw.symm
            · rename_i hlt; rw [List.getElem?_eq_none (by omega)]
          · rfl
        rw [e2] at this
        exact this
      · cases hx
    · cases hx
  · rename_i s e
    split at hx
    · rename_i hs
      split at hx
      · rename_i hsz
        cases hx
        refine ⟨_, h.inv.nilOwn hsz, ?_, h.below, h.grew, h.had, h.defers⟩
        obtain ⟨w, hw, hnil⟩ := h.fr.get s _ hs
        have e1 : w = .slice none 0 0 := hnil
        subst e1
        have := (h.fr.mono hle).set s (.s (.own st.ob.length)) (.slice none 0 0) hv
        have e2 : a.tmps.toList.set s (.slice none 0 0) = a.tmps.toList := by
          refine List.ext_getElem? fun i => ?_
          rw [List.getElem?_set]
          split
          · rename_i hdi; subst hdi; split
            · exact hw.symm
            · rename_i hlt; rw [List.getElem?_eq_none (by omega)]
          · rfl
        rw [e2] at this
        exact this
      · cases hx
    · cases hx
  · rename_i k off e
    split at hx
    · rename_i row hk
      split at hx
      · rename_i hg
        split at hx
        · rename_i row' hp
          split at hx
          · rename_i hsz
            cases hx
            have i1 := h.inv.nilOwn (e := e) (sz := (tt e).size) (bytes := (tt e).bytes) hsz
            have hlt := (List.getElem?_eq_some_iff.1 hk).1
            have hk' : (st.ob ++ [Ob.arr [] e (tt e).size (tt e).bytes true])[k]? = some (.box row) := by rw [List.getElem?_append_left hlt]; exact hk
            obtain ⟨h1, ⟨t, ws, h2, h3⟩, h4⟩ := i1.obs k _ hk'
            have h3' := rput_nil h3 hg hp hv
            refine ⟨E.push 0 (.slice none 0 0), ?_, h.fr.mono hle, h.below, h.grew, h.had, h.defers⟩
            have i2 := i1.change (k := k) (o' := .box row') (row := none) (W' := W) (ob' := st.ob.set k (.box row') ++ [.arr [] e (tt e).size (tt e).bytes true]) idS ((Env.le_refl _).but k) (by rw [i1.n]; simp) (fun j oj hj hoj => ⟨oj, ?_, by cases oj <;> rfl⟩) (by rw [List.getElem?_append_left (by simpa using hlt)]; simp [hlt]) (idS_ok (Env.le_refl _)) ⟨rfl, rfl, rfl, Nat.le_refl _, fun _ _ _ => rfl⟩
              ⟨h1, ⟨t, ws, h2, h3'⟩, h4⟩ i1.mu (fun b o w hm => .inl hm) (fun g e => by cases e) (fun g hg j oj hj hoj hw => i1.apart k j _ oj g (Ne.symm hj) hk' hoj hg hw)
            · exact i2
            · rw [List.getElem?_append] at hoj ⊢
              simp only [List.length_set] at hoj
              split at hoj
              · rename_i hlt'
                rw [if_pos hlt', ← hoj, List.getElem?_set_ne (Ne.symm hj)]
              · rename_i hge
                rw [if_neg hge]; exact hoj
          · cases hx
        · cases hx
      · cases hx
    · cases hx

theorem nilAll_spec {B : Nat} {W0 : World} {m0 : Mem} {a : Act} {W : World} : ∀ {l : List NilAt} {E : Env} {st st' : St}, Sim B W0 m0 E st a W → nilAll arS st l = some st' → ∃ E', Sim B W0 m0 E' st' a W
  | [], E, _, _, h, hx => by cases hx; exact ⟨E, h⟩
  | x :: l, E, st, st', h, hx => by
    simp only [nilAll] at hx
    split at hx
    · rename_i st1 h1
      obtain ⟨E1, s1⟩ := nilOne_spec h h1
      exact nilAll_spec s1 hx
    · cases hx

theorem least {p : Nat → Prop} (h : ∃ n, p n) : ∃ n, p n ∧ ∀ m, p m → n ≤ m := by
  obtain ⟨n, hn⟩ := h
  induction n using Nat.strongRecOn with
  | _ n ih =>
    by_cases hm : ∃ m, m < n ∧ p m
    · obtain ⟨m, hlt, hp⟩ := hm
      exact ih m hlt hp
    · exact ⟨n, hn, fun m hp => Nat.le_of_not_lt fun hlt => hm ⟨m, hlt, hp⟩⟩

/-! ### Code -/
def setB (st : St) (c : Operand) (b : Bool) : St :=
  match c with
  | .tmp t => match st.fr[t]? with
    | some (.s (.p (.v (.bool _)))) => ⟨st.fr.set t (.s (.bl b)), st.ob⟩
    | _ => st
  | _ => st

/-- So many rounds of a loop, one after another; then it has been left. -/
def unrollK (body : St → Kt → Prop) : Nat → St → Kt → Prop
  | 0, _, _ => False
  | n + 1, st, κ => body st ⟨fun st' => unrollK body n st' κ, κ.x, κ.r, κ.g⟩

mutual
def vcC (ar : Ar) (Γ : Ctx) : Code → St → Kt → Prop
  | .skip, st, κ => κ.n st
  | .label _, st, κ => ∃ (cv : List NilAt) (st1 : St), nilAll ar st cv = some st1 ∧ κ.n st1
  | .region _ ops dr, st, κ => match dr with
    | false => vcOps true ar Γ ops.toList ops.toList st κ.n
    | true => vcDraws ar Γ ar.cked ops.toList st κ.n
  | .seq a b, st, κ => vcC ar Γ a st ⟨fun st' => vcC ar Γ b st' κ, κ.x, κ.r, κ.g⟩
  | .cond c a b, st, κ => match st.ev 0 c with
    | .s (.bl t) => match t with
      | true => vcC ar Γ a st κ
      | false => vcC ar Γ b st κ
    | .s (.p (.v (.bool t))) => (t = true → vcC ar Γ a (setB st c true) κ) ∧ (t = false → vcC ar Γ b (setB st c false) κ)
    | _ => False
  | .block id b, st, κ => vcC ar Γ b st ⟨κ.n, fun i st' => match (i == id) with | true => κ.n st' | false => κ.x i st', κ.r, κ.g⟩
  | .exit id, st, κ => κ.x id st
  | .ret, st, κ => κ.r st
  | .goto l, st, κ => κ.g l st
  | .loop b, st, κ => (∃ n : Nat, unrollK (fun st κ => vcC ar Γ b st κ) n st κ) ∨ ∃ (ι : Type) (I : ι → St) (m : ι → Nat) (cv : List NilAt) (st1 : St) (i0 : ι), nilAll ar st cv = some st1 ∧ fits st1 (I i0) ∧
      ∀ i, vcC ar Γ b (I i) ⟨fun st' => ∃ j, fits (frzAll ar st' cv) (I j) ∧ m j < m i, κ.x, κ.r, κ.g⟩
  | .scope c, st, κ => ∃ (ι : Type) (L : ι → Nat) (I : ι → St) (m : ι → Nat) (cv0 cv : List NilAt) (st1 : St), nilAll ar st cv0 = some st1 ∧
      vcC ar Γ c st1 ⟨κ.n, κ.x, κ.r, fun l st' => ∃ j, L j = l ∧ fits (frzAll ar st' cv) (I j)⟩ ∧
      ∀ i, vcFrom ar Γ c (L i) (I i) ⟨κ.n, κ.x, κ.r, fun l st' => ∃ j, L j = l ∧ fits (frzAll ar st' cv) (I j) ∧ m j < m i⟩
  | _, _, _ => False
/-- What stands behind a label. -/
def vcFrom (ar : Ar) (Γ : Ctx) : Code → Nat → St → Kt → Prop
  | .seq a b, l, st, κ => match findLabel a l with
    | some _ => vcFrom ar Γ a l st ⟨fun st' => vcC ar Γ b st' κ, κ.x, κ.r, κ.g⟩
    | none => vcFrom ar Γ b l st κ
  | .label l', l, st, κ => l' = l ∧ κ.n st
  | _, _, _, _ => False
end

theorem Sim.setB {B : Nat} {W0 : World} {m0 : Mem} {E : Env} {st : St} {a : Act} {W : World} {c : Operand} {t : Bool} (h : Sim B W0 m0 E st a W) (hc : st.ev 0 c = .s (.p (.v (.bool t)))) : Sim B W0 m0 E (setB st c t) a W := by
  unfold Eng.setB
  split
  · rename_i i
    split
    · rename_i b hb
      have : b = t := by
        simp only [St.ev, hb] at hc
        simpa using hc
      subst this
      exact h.set hb
    · exact h
  · exact h

/-- As Q; by a goto: G. -/
def jumpsTo (G : Nat → Act → World → Prop) (Q : Exit → Act → World → Prop) : Exit → Act → World → Prop
  | .goto l, a, w => G l a w
  | e, a, w => Q e a w

theorem wp_scope_many {P : Program} {a : Act} {w : World} {Q : Exit → Act → World → Prop} {c : Code} {ι : Type} (L : ι → Nat) (J : ι → Act → World → Prop) (μ : ι → Nat)
    (hf : ∀ i, ∃ rest, findLabel c (L i) = some rest)
    (first : c.wp P (jumpsTo (fun l a w => ∃ i, L i = l ∧ J i a w) Q) a w)
    (pass : ∀ i rest, findLabel c (L i) = some rest → ∀ a w, J i a w → rest.wp P (jumpsTo (fun l a w => ∃ j, L j = l ∧ J j a w ∧ μ j < μ i) Q) a w) : (Code.scope c).wp P Q a w := by
  intro b k cs
  have key : ∀ n i rest a w, μ i = n → findLabel c (L i) = some rest → J i a w → ∃ e a' w', Q e a' w' ∧ Arrives P (lone (b.at a (.code rest :: .inScope c :: k)) cs w) b k cs e a' w' := by
    intro n
    induction n using Nat.strongRecOn with
    | _ n ih =>
      intro i rest a w hn hi hJ
      obtain ⟨e, a₁, w₁, hq, harr⟩ := pass i rest hi a w hJ b (.inScope c :: k) cs
      cases e with
      | normal => exact ⟨.normal, a₁, w₁, hq, Steps.trans harr (.one step_inScope)⟩
      | exit id => exact ⟨.exit id, a₁, w₁, hq, fun k' hk => harr k' (by simp [exitTo, hk])⟩
      | goto l' =>
        obtain ⟨j, rfl, hJ', hlt⟩ := hq
        obtain ⟨rest2, hr2⟩ := hf j
        have hg : gotoIn (L j) (.inScope c :: k) = some (.code rest2 :: .inScope c :: k) := by simp [gotoIn, hr2]
        obtain ⟨e₂, a₂, w₂, hq₂, harr₂⟩ := ih _ (by omega) j rest2 a₁ w₁ rfl hr2 hJ'
        exact ⟨e₂, a₂, w₂, hq₂, .of_steps (harr _ hg) harr₂⟩
      | ret => exact ⟨_, a₁, w₁, hq, harr⟩
      | panic ch => exact ⟨_, a₁, w₁, hq, harr⟩
      | outgrown => exact ⟨_, a₁, w₁, hq, harr⟩
  obtain ⟨e, a₁, w₁, hq, harr⟩ := first b (.inScope c :: k) cs
  cases e with
  | normal => exact ⟨.normal, a₁, w₁, hq, .head step_scope (Steps.trans harr (.one step_inScope))⟩
  | exit id => exact ⟨.exit id, a₁, w₁, hq, fun k' hk => .head step_scope (harr k' (by simp [exitTo, hk]))⟩
  | goto l' =>
    obtain ⟨j, rfl, hJ'⟩ := hq
    obtain ⟨rest2, hr2⟩ := hf j
    have hg : gotoIn (L j) (.inScope c :: k) = some (.code rest2 :: .inScope c :: k) := by simp [gotoIn, hr2]
    obtain ⟨e₂, a₂, w₂, hq₂, harr₂⟩ := key _ j rest2 a₁ w₁ rfl hr2 hJ'
    exact ⟨e₂, a₂, w₂, hq₂, .of_steps (.head step_scope (harr _ hg)) harr₂⟩
  | ret => exact ⟨_, a₁, w₁, hq, .of_steps (.one step_scope) harr⟩
  | panic ch => exact ⟨_, a₁, w₁, hq, .of_steps (.one step_scope) harr⟩
  | outgrown => exact ⟨_, a₁, w₁, hq, .of_steps (.one step_scope) harr⟩

theorem vcFrom_some {ar : Ar} {Γ : Ctx} : ∀ (c : Code) {l : Nat} {st : St} {κ : Kt}, vcFrom ar Γ c l st κ → ∃ rest, findLabel c l = some rest := by
  intro c
  induction c with
  | seq x y ihx ihy =>
    intro l st κ h
    simp only [vcFrom] at h
    simp only [findLabel]
    split at h
    · rename_i r he; exact ⟨_, by rw [he]⟩
    · rename_i he; rw [he]; exact ihy h
  | label l' => intro l st κ h; simp only [vcFrom] at h; exact ⟨.skip, by simp [findLabel, h.1]⟩
  | _ => intro l st κ h; simp [vcFrom] at h

theorem scope_spec {P : Program} {Γ : Ctx} {B : Nat} {W0 : World} {m0 : Mem} {c : Code}
    (h1 : ∀ {Q : Exit → Act → World → Prop} {κ : Kt} {E : Env} {st : St} {a : Act} {W : World},
    (∀ E st a W, κ.n st → Sim B W0 m0 E st a W → Q .normal a W) → (∀ id E st a W, κ.x id st → Sim B W0 m0 E st a W → Q (.exit id) a W) → (∀ E st a W, κ.r st → Sim B W0 m0 E st a W → Q .ret a W) →
    (∀ l E st a W, κ.g l st → Sim B W0 m0 E st a W → Q (.goto l) a W) →
    Sim B W0 m0 E st a W → vcC arS Γ c st κ → c.wp P Q a W)
    (h2 : ∀ (l : Nat) (rest : Code), findLabel c l = some rest → ∀ {Q : Exit → Act → World → Prop} {κ : Kt} {E : Env} {st : St} {a : Act} {W : World},
    (∀ E st a W, κ.n st → Sim B W0 m0 E st a W → Q .normal a W) → (∀ id E st a W, κ.x id st → Sim B W0 m0 E st a W → Q (.exit id) a W) → (∀ E st a W, κ.r st → Sim B W0 m0 E st a W → Q .ret a W) →
    (∀ l E st a W, κ.g l st → Sim B W0 m0 E st a W → Q (.goto l) a W) →
    Sim B W0 m0 E st a W → vcFrom arS Γ c l st κ → rest.wp P Q a W)
    {Q : Exit → Act → World → Prop} {κ : Kt} {E : Env} {st : St} {a : Act} {W : World}
    (hn : ∀ E st a W, κ.n st → Sim B W0 m0 E st a W → Q .normal a W) (hx : ∀ id E st a W, κ.x id st → Sim B W0 m0 E st a W → Q (.exit id) a W) (hr : ∀ E st a W, κ.r st → Sim B W0 m0 E st a W → Q .ret a W)
    (h : Sim B W0 m0 E st a W) (hk : vcC arS Γ (.scope c) st κ) : (Code.scope c).wp P Q a W := by
  simp only [vcC] at hk
  obtain ⟨ι, L, I, m, cv0, cv, st1, hcv, hfirst, hpass⟩ := hk
  obtain ⟨E0, h⟩ := nilAll_spec h hcv
  refine wp_scope_many L (fun i a W => ∃ E, Sim B W0 m0 E (I i) a W) m (fun i => vcFrom_some c (hpass i)) ?_ ?_
  · refine h1 (κ := ⟨κ.n, κ.x, κ.r, fun l st' => ∃ j, L j = l ∧ fits (frzAll arS st' cv) (I j)⟩) (fun E st a W hk h => hn _ _ _ _ hk h) (fun id E st a W hk h => hx _ _ _ _ _ hk h) (fun E st a W hk h => hr _ _ _ _ hk h) (fun l E st a W hk h => ?_) h hfirst
    obtain ⟨j, e, hf⟩ := hk
    obtain ⟨E4, h⟩ := frzAll_spec (l := cv) h
    exact ⟨j, e, _, h.fits hf⟩
  · rintro i rest hi a W ⟨E, hs⟩
    refine h2 _ _ hi (κ := ⟨κ.n, κ.x, κ.r, fun l st' => ∃ j, L j = l ∧ fits (frzAll arS st' cv) (I j) ∧ m j < m i⟩) (fun E st a W hk h => hn _ _ _ _ hk h) (fun id E st a W hk h => hx _ _ _ _ _ hk h) (fun E st a W hk h => hr _ _ _ _ hk h) (fun l E st a W hk h => ?_) hs (hpass i)
    obtain ⟨j, e, hf, hlt⟩ := hk
    obtain ⟨E4, h⟩ := frzAll_spec (l := cv) h
    exact ⟨j, e, ⟨_, h.fits hf⟩, hlt⟩

theorem vcC_both {P : Program} (hT : TTok P) (hfs : Enters P) {Γ : Ctx} (hG : Γ.Ok P) {B : Nat} {W0 : World} {m0 : Mem} : ∀ (c : Code), (∀ {Q : Exit → Act → World → Prop} {κ : Kt} {E : Env} {st : St} {a : Act} {W : World},
    (∀ E st a W, κ.n st → Sim B W0 m0 E st a W → Q .normal a W) → (∀ id E st a W, κ.x id st → Sim B W0 m0 E st a W → Q (.exit id) a W) → (∀ E st a W, κ.r st → Sim B W0 m0 E st a W → Q .ret a W) →
    (∀ l E st a W, κ.g l st → Sim B W0 m0 E st a W → Q (.goto l) a W) →
    Sim B W0 m0 E st a W → vcC arS Γ c st κ → c.wp P Q a W) ∧
    (∀ (l : Nat) (rest : Code), findLabel c l = some rest → ∀ {Q : Exit → Act → World → Prop} {κ : Kt} {E : Env} {st : St} {a : Act} {W : World},
    (∀ E st a W, κ.n st → Sim B W0 m0 E st a W → Q .normal a W) → (∀ id E st a W, κ.x id st → Sim B W0 m0 E st a W → Q (.exit id) a W) → (∀ E st a W, κ.r st → Sim B W0 m0 E st a W → Q .ret a W) →
    (∀ l E st a W, κ.g l st → Sim B W0 m0 E st a W → Q (.goto l) a W) →
    Sim B W0 m0 E st a W → vcFrom arS Γ c l st κ → rest.wp P Q a W) := by
  intro c
  induction c with
  | skip =>
    refine ⟨?_, fun l rest hf => by simp [findLabel] at hf⟩
    intro Q κ E st a W hn _ _ hg h hk; exact wp_skip (hn _ _ _ _ hk h)
  | label l' =>
    refine ⟨?_, fun l rest hf => ?_⟩
    · intro Q κ E st a W hn _ _ hg h hk
      obtain ⟨cv, st1, hcv, hk⟩ := hk
      obtain ⟨E1, h⟩ := nilAll_spec h hcv
      exact wp_label (hn _ _ _ _ hk h)
    · intro Q κ E st a W hn _ _ hg h hk
      simp only [findLabel] at hf
      split at hf
      · cases hf; exact wp_skip (hn _ _ _ _ hk.2 h)
      · cases hf
  | region id ops dr =>
    refine ⟨?_, fun l rest hf => by simp [findLabel] at hf⟩
    intro Q κ E st a W hn hx hr hg h hk
    cases dr with
    | false => exact wp_region_list (vcOps_spec hT hfs hG hn ops.toList h hk)
    | true => exact wp_region_draws hT hfs hG hn h hk
  | seq x y ihx ihy =>
    constructor
    rotate_left
    · intro l rest hf Q κ E st a W hn hx hr hg h hk
      simp only [findLabel] at hf
      simp only [vcFrom] at hk
      split at hf
      · rename_i r he
        rw [he] at hk
        cases hf
        refine wp_seq (ihx.2 _ _ he (κ := ⟨fun st' => vcC arS Γ y st' κ, κ.x, κ.r, κ.g⟩) (fun E st a W hk h => ?_) (fun id E st a W hk h => ?_) (fun E st a W hk h => ?_) (fun l E st a W hk h => hg _ _ _ _ _ hk h) h hk)
        · exact ihy.1 hn hx hr hg h hk
        · exact hx _ _ _ _ _ hk h
        · exact hr _ _ _ _ hk h
      · rename_i he
        rw [he] at hk
        exact ihy.2 _ _ hf hn hx hr hg h hk
    intro Q κ E st a W hn hx hr hg h hk
    refine wp_seq (ihx.1 (κ := ⟨fun st' => vcC arS Γ y st' κ, κ.x, κ.r, κ.g⟩) (fun E st a W hk h => ?_) (fun id E st a W hk h => ?_) (fun E st a W hk h => ?_) (fun l E st a W hk h => hg _ _ _ _ _ hk h) h hk)
    · exact ihy.1 hn hx hr hg h hk
    · exact hx _ _ _ _ _ hk h
    · exact hr _ _ _ _ hk h
  | cond c x y ihx ihy =>
    refine ⟨?_, fun l rest hf => by simp [findLabel] at hf⟩
    intro Q κ E st a W hn hx hr hg h hk
    have hc := RepS.ev h.fr 0 c
    simp only [vcC] at hk
    split at hk
    · rename_i t he
      rw [he] at hc
      have hc' : a.eval c = .bool t := hc
      split at hk
      · exact wp_cond_true hc' (ihx.1 hn hx hr hg h hk)
      · exact wp_cond_false hc' (ihy.1 hn hx hr hg h hk)
    · rename_i t he
      have hc2 := hc
      rw [he] at hc2
      have hc' : a.eval c = .bool t := hc2.1
      cases t with
      | true => exact wp_cond_true hc' (ihx.1 hn hx hr hg (h.setB he) (hk.1 rfl))
      | false => exact wp_cond_false hc' (ihy.1 hn hx hr hg (h.setB he) (hk.2 rfl))
    · exact hk.elim
  | block id b ih =>
    refine ⟨?_, fun l rest hf => by simp [findLabel] at hf⟩
    intro Q κ E st a W hn hx hr hg h hk
    refine wp_block (ih.1 (κ := ⟨κ.n, fun i st' => match (i == id) with | true => κ.n st' | false => κ.x i st', κ.r, κ.g⟩) (fun E st a W hk h => ?_) (fun i E st a W hk h => ?_) (fun E st a W hk h => ?_) (fun l E st a W hk h => hg _ _ _ _ _ hk h) h hk)
    · exact hn _ _ _ _ hk h
    · simp only [Exit.inBlock]
      by_cases e : i = id
      · rw [if_pos e]
        have : (i == id) = true := by simp [e]
        simp only [this] at hk
        exact hn _ _ _ _ hk h
      · rw [if_neg e]
        have : (i == id) = false := by simp [e]
        simp only [this] at hk
        exact hx _ _ _ _ _ hk h
    · exact hr _ _ _ _ hk h
  | exit id =>
    refine ⟨?_, fun l rest hf => by simp [findLabel] at hf⟩
    intro Q κ E st a W hn hx hr hg h hk; exact wp_exit (hx _ _ _ _ _ hk h)
  | ret =>
    refine ⟨?_, fun l rest hf => by simp [findLabel] at hf⟩
    intro Q κ E st a W hn hx hr hg h hk; exact wp_ret (hr _ _ _ _ hk h)
  | loop b ih =>
    refine ⟨?_, fun l rest hf => by simp [findLabel] at hf⟩
    intro Q κ E st a W hn hx hr hg h hk
    simp only [vcC] at hk
    rcases hk with ⟨n, hk⟩ | hk
    · have key : ∀ (n : Nat) {E : Env} {st : St} {a : Act} {W : World}, Sim B W0 m0 E st a W → unrollK (fun st κ => vcC arS Γ b st κ) n st κ → (Code.loop b).wp P Q a W := by
        intro n
        classical
        have hex : ∀ (a : Act) (W : World), (∃ k E st, Sim B W0 m0 E st a W ∧ unrollK (fun st κ => vcC arS Γ b st κ) k st κ) → ∃ k, (∃ E st, Sim B W0 m0 E st a W ∧ unrollK (fun st κ => vcC arS Γ b st κ) k st κ) ∧ ∀ q, (∃ E st, Sim B W0 m0 E st a W ∧ unrollK (fun st κ => vcC arS Γ b st κ) q st κ) → k ≤ q :=
          fun a W h => least h
        intro E st a W h hk
        refine wp_loop (fun a W => ∃ k E st, Sim B W0 m0 E st a W ∧ unrollK (fun st κ => vcC arS Γ b st κ) k st κ) (fun a W => if hw : ∃ k E st, Sim B W0 m0 E st a W ∧ unrollK (fun st κ => vcC arS Γ b st κ) k st κ then (hex a W hw).choose else 0) ⟨n, E, st, h, hk⟩ fun a W hI => ?_
        obtain ⟨⟨E2, st2, h2, hk2⟩, hmin⟩ := (hex a W hI).choose_spec
        rw [dif_pos hI]
        generalize (hex a W hI).choose = k at hk2 hmin
        cases k with
        | zero => exact hk2.elim
        | succ k =>
          refine ih.1 (κ := ⟨fun st' => unrollK (fun st κ => vcC arS Γ b st κ) k st' κ, κ.x, κ.r, κ.g⟩) (fun E st a' W' hk h => ?_) (fun id E st a W hk h => hx _ _ _ _ _ hk h) (fun E st a W hk h => hr _ _ _ _ hk h) (fun l E st a W hk h => hg _ _ _ _ _ hk h) h2 hk2
          have hI' : ∃ k E st, Sim B W0 m0 E st a' W' ∧ unrollK (fun st κ => vcC arS Γ b st κ) k st κ := ⟨k, E, st, h, hk⟩
          refine ⟨hI', ?_⟩
          rw [dif_pos hI']
          have := (hex a' W' hI').choose_spec.2 k ⟨E, st, h, hk⟩
          omega
      exact key n h hk
    obtain ⟨ι, I, m, cv, st1, i0, hcv, h0, hround⟩ := hk
    obtain ⟨E1, h1⟩ := nilAll_spec h hcv
    have key : ∀ (a : Act) (W : World), (∃ i E, Sim B W0 m0 E (I i) a W) → ∃ i E, Sim B W0 m0 E (I i) a W ∧ ∀ j E', Sim B W0 m0 E' (I j) a W → m i ≤ m j := fun a W ⟨i, E, hi⟩ => by
      have hex : ∃ n, ∃ i E, m i = n ∧ Sim B W0 m0 E (I i) a W := ⟨m i, i, E, rfl, hi⟩
      obtain ⟨n, ⟨j, E', e, hj⟩, hmin⟩ := least hex
      exact ⟨j, E', hj, fun q E'' hq => by rw [e]; exact hmin _ ⟨q, E'', rfl, hq⟩⟩
    classical
    refine wp_loop (fun a W => ∃ i E, Sim B W0 m0 E (I i) a W) (fun a W => if hw : ∃ i E, Sim B W0 m0 E (I i) a W then m (key a W hw).choose else 0) ⟨i0, _, h1.fits h0⟩ fun a W hI => ?_
    have hmin := (key a W hI).choose_spec
    obtain ⟨E2, h2, hle⟩ := hmin
    have hmu : (if hw : ∃ i E, Sim B W0 m0 E (I i) a W then m (key a W hw).choose else 0) = m (key a W hI).choose := dif_pos hI
    rw [hmu]
    refine ih.1 (κ := ⟨fun st' => ∃ j, fits (frzAll arS st' cv) (I j) ∧ m j < m (key a W hI).choose, κ.x, κ.r, κ.g⟩) (fun E st a' W' hk h => ?_) (fun id E st a W hk h => ?_) (fun E st a W hk h => ?_) (fun l E st a W hk h => hg _ _ _ _ _ hk h) h2 (hround _)
    · obtain ⟨j, hf, hlt⟩ := hk
      obtain ⟨E4, h⟩ := frzAll_spec (l := cv) h
      have hI' : ∃ i E, Sim B W0 m0 E (I i) a' W' := ⟨j, _, h.fits hf⟩
      refine ⟨hI', ?_⟩
      rw [dif_pos hI']
      obtain ⟨E3, _, hle3⟩ := (key a' W' hI').choose_spec
      exact Nat.lt_of_le_of_lt (hle3 j _ (h.fits hf)) hlt
    · exact hx _ _ _ _ _ hk h
    · exact hr _ _ _ _ hk h
  | rangeFunc _ _ _ _ _ _ =>
    refine ⟨?_, fun l rest hf => by simp [findLabel] at hf⟩
    intro Q κ E st a W hn hx hr hg h hk; exact False.elim hk
  | scope c ih =>
    refine ⟨?_, fun l rest hf => by simp [findLabel] at hf⟩
    intro Q κ E st a W hn hx hr hg h hk
    exact scope_spec ih.1 ih.2 hn hx hr h hk
  | goto l =>
    refine ⟨?_, fun l rest hf => by simp [findLabel] at hf⟩
    intro Q κ E st a W hn hx hr hg h hk; exact wp_goto (hg _ _ _ _ _ hk h)
  | refuse _ =>
    refine ⟨?_, fun l rest hf => by simp [findLabel] at hf⟩
    intro Q κ E st a W hn hx hr hg h hk; exact False.elim hk

theorem vcC_spec {P : Program} (hT : TTok P) (hfs : Enters P) {Γ : Ctx} (hG : Γ.Ok P) {B : Nat} {W0 : World} {m0 : Mem} : ∀ (c : Code) {Q : Exit → Act → World → Prop} {κ : Kt} {E : Env} {st : St} {a : Act} {W : World},
    (∀ E st a W, κ.n st → Sim B W0 m0 E st a W → Q .normal a W) → (∀ id E st a W, κ.x id st → Sim B W0 m0 E st a W → Q (.exit id) a W) → (∀ E st a W, κ.r st → Sim B W0 m0 E st a W → Q .ret a W) →
    (∀ l E st a W, κ.g l st → Sim B W0 m0 E st a W → Q (.goto l) a W) →
    Sim B W0 m0 E st a W → vcC arS Γ c st κ → c.wp P Q a W := fun c => (vcC_both hT hfs hG c).1

/-- What may be asked: true contracts; bodies; a body walked in place, d deep. -/
def bodyOf (P : Program) (f : FuncId) (fn : Func) (c : Code) : Prop := P.funcs[f]? = some fn ∧ fn.body = some c

def ctx (P : Program) : Nat → Ctx
  | 0 => ⟨best P, bestE P, bodyOf P, fun _ _ _ => False⟩
  | d + 1 => ⟨best P, bestE P, bodyOf P, vcC arS (ctx P d)⟩

theorem ctx_ok {P : Program} (hT : TTok P) (hfs : Enters P) : ∀ d, (ctx P d).Ok P
  | 0 => ⟨best_sound P, bestE_sound P, fun _ _ _ h => h, fun _ _ _ _ _ _ _ _ _ _ _ _ h => h.elim⟩
  | d + 1 => ⟨best_sound P, bestE_sound P, fun _ _ _ h => h, fun c _ _ _ _ _ _ hn hx hr hg hs h => vcC_spec hT hfs (ctx_ok hT hfs d) c hn hx hr hg hs h⟩

/-! ### Functions -/
def retP (ar : Ar) (rs : List ResultVar) (k : List PR → Prop) (st : St) : Prop :=
  match resAll st rs with
  | some svs => match useAll ar st.ob svs with
    | some (prs, _) => k prs
    | none => False
  | none => False

def asSV : PR → SV
  | .s x => .s (.p x)
  | .a row => .a (segs row)
  | .ao _ => .un

def slots0 (n : Nat) : List PR → List SV
  | [] => List.replicate n .un
  | r :: l => asSV r :: slots0 n l

/-- Arguments that are taken as known numbers. -/
def litF : List Bool → List SV → List SV
  | [], l => l
  | true :: bs, .s (.p (.v (.int k n))) :: l => .s (.lit k n) :: litF bs l
  | _ :: bs, x :: l => x :: litF bs l
  | _ :: _, [] => []

theorem litF_rep {E : Env} : ∀ (bs : List Bool) {xs : List SV} {ws : List Value}, RepF E xs ws → RepF E (litF bs xs) ws
  | [], _, _, h => h
  | true :: bs, [], _, h => h
  | false :: bs, [], _, h => h
  | false :: bs, x :: l, _, ⟨w, ws', e, hv, hr⟩ => ⟨w, ws', e, hv, litF_rep bs hr⟩
  | true :: bs, x :: l, _, ⟨w, ws', e, hv, hr⟩ => by
    unfold litF
    split
    · rename_i heq; cases heq
    · rename_i heq1 heq2
      cases heq1; cases heq2
      exact ⟨w, ws', e, hv.1, litF_rep _ hr⟩
    · rename_i heq1 heq2
      cases heq1; cases heq2
      exact ⟨w, ws', e, hv, litF_rep _ hr⟩
    · rename_i heq; cases heq

/-- Own slices among the results are handed out. -/
def retO (ar : Ar) (rs : List ResultVar) (k : List PR → Prop) (st : St) : Prop :=
  match resAll st rs with
  | some svs => match keepAll ar st.ob svs with
    | some (svs', ob') => match handAll ob' svs' with
      | some (prs, ks) => nodupB ks = true ∧ k prs
      | none => False
    | none => False
  | none => False

def vcFunO (bs : List Bool) (ar : Ar) (Γ : Ctx) (fn : Func) (c : Code) (args : List PR) (k : List PR → Prop) : Prop :=
  vcC ar Γ c ⟨litF bs (slots0 (fn.ntmps - args.length) args), []⟩ ⟨retO ar fn.results.toList k, fun _ _ => False, retO ar fn.results.toList k, fun _ _ => False⟩

def vcFunT (bs : List Bool) (ar : Ar) (Γ : Ctx) (fn : Func) (c : Code) (args : List PR) (R : List ResultVar → (List PR → Prop) → St → Prop) (k : List PR → Prop) : Prop :=
  vcC ar Γ c ⟨litF bs (slots0 (fn.ntmps - args.length) args), []⟩ ⟨R fn.results.toList k, fun _ _ => False, R fn.results.toList k, fun _ _ => False⟩

/-- Plain results. -/
def plainAll : List SV → Option (List PR)
  | [] => some []
  | .s (.p (.v x)) :: l => match plainAll l with | some r => some (.s (.v x) :: r) | none => none
  | .s (.lit k n) :: l => match plainAll l with | some r => some (.s (.v (.int k n)) :: r) | none => none
  | .s (.bl b) :: l => match plainAll l with | some r => some (.s (.v (.bool b)) :: r) | none => none
  | _ => none

theorem plainAll_spec {E : Env} : ∀ {svs : List SV} {ws : List Value} {rs : List PR}, RepF E svs ws → plainAll svs = some rs → ∀ B m W, OwnRs B m W rs ws []
  | [], _, _, h, hp, _, _, _ => by cases hp; exact ⟨h, rfl⟩
  | .s (.p (.v x)) :: l, _, _, ⟨w, ws', e, hv, hr⟩, hp, B, m, W => by
    simp only [plainAll] at hp
    split at hp
    · rename_i r hr'
      cases hp
      obtain ⟨h1, h2⟩ : w = x ∧ x.oneCell' = true := hv
      exact ⟨w, ws', [], [], e, rfl, ⟨rfl, by rw [RepV]; exact ⟨h1, h2⟩⟩, plainAll_spec hr hr' B m W⟩
    · cases hp
  | .s (.lit k n) :: l, _, _, ⟨w, ws', e, hv, hr⟩, hp, B, m, W => by
    simp only [plainAll] at hp
    split at hp
    · rename_i r hr'
      cases hp
      exact ⟨w, ws', [], [], e, rfl, ⟨rfl, by rw [RepV]; exact ⟨hv, rfl⟩⟩, plainAll_spec hr hr' B m W⟩
    · cases hp
  | .s (.bl b) :: l, _, _, ⟨w, ws', e, hv, hr⟩, hp, B, m, W => by
    simp only [plainAll] at hp
    split at hp
    · rename_i r hr'
      cases hp
      exact ⟨w, ws', [], [], e, rfl, ⟨rfl, by rw [RepV]; exact ⟨hv, rfl⟩⟩, plainAll_spec hr hr' B m W⟩
    · cases hp
  | .un :: _, _, _, _, hp, _, _, _ => by cases hp
  | .ud :: _, _, _, _, hp, _, _, _ => by cases hp
  | .a _ :: _, _, _, _, hp, _, _, _ => by cases hp
  | .t _ :: _, _, _, _, hp, _, _, _ => by cases hp
  | .s (.p (.sl _ _)) :: _, _, _, _, hp, _, _, _ => by cases hp
  | .s (.p (.ow _ _ _ _)) :: _, _, _, _, hp, _, _, _ => by cases hp
  | .s (.p (.on _ _ _ _ _)) :: _, _, _, _, hp, _, _, _ => by cases hp
  | .s .nil :: _, _, _, _, hp, _, _, _ => by cases hp
  | .s (.own _) :: _, _, _, _, hp, _, _, _ => by cases hp
  | .s (.ptr _ _) :: _, _, _, _, hp, _, _, _ => by cases hp
  | .s (.ept _ _ _ _ _) :: _, _, _, _, hp, _, _, _ => by cases hp
  | .s (.ipt _ _) :: _, _, _, _, hp, _, _, _ => by cases hp
  | .s (.bsl _ _ _ _) :: _, _, _, _, hp, _, _, _ => by cases hp
  | .s (.psl _ _ _ _) :: _, _, _, _, hp, _, _, _ => by cases hp
  | .s (.clo _ _) :: _, _, _, _, hp, _, _, _ => by cases hp
  | .s .dead :: _, _, _, _, hp, _, _, _ => by cases hp
  | .s (.stl _) :: _, _, _, _, hp, _, _, _ => by cases hp

/-- Plain results; the rest of the world stands. -/
def retE (H : Nat → Option Obj) (rs : List ResultVar) (k : List PR → Prop) (st : St) : Prop :=
  match st.ob with
  | .wld H' :: _ => H' = H ∧ (match resAll st rs with
    | some svs => match plainAll svs with
      | some prs => k prs
      | none => False
    | none => False)
  | _ => False

def tsSV : List TR → List SV
  | [] => []
  | t :: l => t.sv :: tsSV l

theorem tsSV_spec {E : Env} : ∀ {ts : List TR} {ws : List Value}, RepT E ts ws → RepF E (tsSV ts) ws
  | [], _, h => h
  | .s c :: _, _, ⟨w, ws', e, hv, hr⟩ => ⟨w, ws', e, hv, tsSV_spec hr⟩
  | .a row :: _, _, ⟨us, ws', e, hv, hr⟩ => ⟨_, ws', e, ⟨us, rfl, hv⟩, tsSV_spec hr⟩

def vcFunE (ar : Ar) (Γ : Ctx) (H : Nat → Option Obj) (fn : Func) (c : Code) (args : List PR) (k : List PR → Prop) : Prop :=
  vcC ar Γ c ⟨tsSV (adRs 1 args).1 ++ List.replicate (fn.ntmps - args.length) .un, .wld H :: (adRs 1 args).2⟩ ⟨retE H fn.results.toList k, fun _ _ => False, retE H fn.results.toList k, fun _ _ => False⟩

def vcFunL (bs : List Bool) (ar : Ar) (Γ : Ctx) (fn : Func) (c : Code) (args : List PR) (k : List PR → Prop) : Prop :=
  vcC ar Γ c ⟨litF bs (slots0 (fn.ntmps - args.length) args), []⟩ ⟨retP ar fn.results.toList k, fun _ _ => False, retP ar fn.results.toList k, fun _ _ => False⟩

def vcFun (ar : Ar) (Γ : Ctx) (fn : Func) (c : Code) (args : List PR) (k : List PR → Prop) : Prop :=
  vcC ar Γ c ⟨slots0 (fn.ntmps - args.length) args, []⟩ ⟨retP ar fn.results.toList k, fun _ _ => False, retP ar fn.results.toList k, fun _ _ => False⟩

theorem slots0_rep {m : Mem} (hg : GlobOk m) (n : Nat) : ∀ {args : List PR} {vs : List Value}, RepRs m args vs → RepF ⟨0, fun _ => 0, fun _ => undef, fun _ => [], m, hg⟩ (slots0 n args) (vs ++ List.replicate n undef)
  | [], vs, h => by
    rw [show vs = [] from h, List.nil_append]
    simp only [slots0]
    induction n with
    | zero => rfl
    | succ n ih => exact ⟨undef, _, rfl, trivial, ih⟩
  | r :: l, _, ⟨w, ws, e, hr, hl⟩ => by
    subst e
    refine ⟨w, _, rfl, ?_, slots0_rep hg n hl⟩
    cases r with
    | s x => exact hr
    | a row => obtain ⟨us, e, h⟩ := hr; exact ⟨us, e, RepG.of_pure h⟩
    | ao row => exact False.elim hr

theorem RepRs.length {m : Mem} : ∀ {rs : List PR} {ws : List Value}, RepRs m rs ws → ws.length = rs.length
  | [], _, h => by rw [show _ = [] from h]; rfl
  | _ :: _, _, ⟨_, _, e, _, h⟩ => by rw [e]; simp [RepRs.length h]

/-- What stands behind a return. -/
abbrev RetOk (P : Program) (R : (List PR → Prop) → St → Prop) (rs : List ResultVar) : Prop :=
  ∀ {B : Nat} {E : Env} {st : St} {a : Act} {W : World} {k : List PR → Prop}, Inv B E st.ob W → RepF E st.fr a.tmps.toList → R k st →
    ∃ ws, (rs.mapM (rv a.tmps)).run P W = .ok ws W ∧ ∃ prs E' ob' F, Ext B E E' ∧ Inv B E' ob' W ∧ OwnRs B E'.μ W prs ws F ∧ F.Nodup ∧ k prs

theorem retP_ok {P : Program} (hT : TTok P) (rs : List ResultVar) : RetOk P (fun k st => retP arS rs k st) rs := fun {B E st a W k} hi hF hk => by
  simp only [retP] at hk
  split at hk
  · rename_i svs hsv
    split at hk
    · rename_i prs ob' hu
      obtain ⟨ws, hws, hF2⟩ := resAll_spec (P := P) hT hi hF hsv
      obtain ⟨E', e1, i1, r1⟩ := useAll_spec hi hF2 hu
      exact ⟨ws, hws, prs, E', ob', [], e1, i1, OwnRs.of_rep r1, List.nodup_nil, hk⟩
    · exact hk.elim
  · exact hk.elim

theorem retO_ok {P : Program} (hT : TTok P) (rs : List ResultVar) : RetOk P (fun k st => retO arS rs k st) rs := fun {B E st a W k} hi hF hk => by
  simp only [retO] at hk
  split at hk
  · rename_i svs hsv
    split at hk
    · rename_i svs' ob' hu
      split at hk
      · rename_i prs ks hh
        obtain ⟨ws, hws, hF2⟩ := resAll_spec (P := P) hT hi hF hsv
        obtain ⟨E', e1, i1, r1⟩ := keepAll_spec hi hF2 hu
        obtain ⟨a1, b1⟩ := handAll_spec i1 r1 hh
        exact ⟨ws, hws, prs, E', ob', blks ob' E' ks, e1, i1, a1, blks_nodup i1 (nodupB_spec hk.1) b1, hk.2⟩
      · exact hk.elim
    · exact hk.elim
  · exact hk.elim

/-- Own slices among the results are handed out, each by another word if that is wanted. -/
def retT (ar : Ar) (rs : List ResultVar) (k : List PR → Prop) (st : St) : Prop :=
  match resAll st rs with
  | some svs => match keepAll ar st.ob (zxAll svs) with
    | some (svs', ob') => match handAll ob' svs' with
      | some (prs, ks) => nodupB ks = true ∧ ∃ prs', loosRs prs prs' ∧ k prs'
      | none => False
    | none => False
  | none => False

theorem retT_ok {P : Program} (hT : TTok P) (rs : List ResultVar) : RetOk P (fun k st => retT arS rs k st) rs := fun {B E st a W k} hi hF hk => by
  simp only [retT] at hk
  split at hk
  · rename_i svs hsv
    split at hk
    · rename_i svs' ob' hu
      split at hk
      · rename_i prs ks hh
        obtain ⟨ws, hws, hF2⟩ := resAll_spec (P := P) hT hi hF hsv
        obtain ⟨E', e1, i1, r1⟩ := keepAll_spec hi (zxAll_spec hF2) hu
        obtain ⟨a1, b1⟩ := handAll_spec i1 r1 hh
        obtain ⟨hnd, prs', hl, hk⟩ := hk
        exact ⟨ws, hws, prs', E', ob', blks ob' E' ks, e1, i1, a1.loos hl, blks_nodup i1 (nodupB_spec hnd) b1, hk⟩
      · exact hk.elim
    · exact hk.elim
  · exact hk.elim

/-- A function whose body asks no more than grants is sound for T. -/
theorem Sound.of_ret (bs : List Bool) (d : Nat) {P : Program} (hT : TTok P) (hfs : Enters P) {f : FuncId} {fn : Func} {c : Code} {Tf : List PR → (List PR → Prop) → Prop} {R : (List PR → Prop) → St → Prop} (hf : P.funcs[f]? = some fn) (hb : fn.body = some c)
    (hR : RetOk P R fn.results.toList) (h : ∀ args k, Tf args k → vcC arS (ctx P d) c ⟨litF bs (slots0 (fn.ntmps - args.length) args), []⟩ ⟨R k, fun _ _ => False, R k, fun _ _ => False⟩) : Sound P f Tf := by
  intro args k m W vs hg hm hr hT'
  have hvc := h args k hT'
  refine calls_of_wp hf hb ?_
  have hlen := hr.length
  have h0 : Sim W.heap.size W m ⟨0, fun _ => 0, fun _ => undef, fun _ => [], m, hg⟩ ⟨litF bs (slots0 (fn.ntmps - args.length) args), []⟩ { tmps := vs.toArray ++ Array.replicate (fn.ntmps - vs.toArray.size) undef, defers := [] } W := by
    refine ⟨⟨Nat.le_refl _, rfl, hm, fun k o hk => by simp at hk, fun i j oi oj g hij hi => by simp at hi⟩, ?_, Below.refl _ _, fun b o w hm => .inl hm, Mem.le_refl _, rfl⟩
    have := litF_rep bs (slots0_rep hg (fn.ntmps - args.length) hr)
    simpa [hlen] using this
  have fin : ∀ E st a W', R k st → Sim W.heap.size W m E st a W' → a.defers = [] ∧ ∃ v, (results fn a.tmps).run P W' = .ok v W' ∧ ∃ v' rs m' F, Ending.returned v = .returned v' ∧ k rs ∧ OwnRes W.heap.size m' W' rs v' F ∧ F.Nodup ∧ Mem.le m m' ∧ (∀ b o w, m' b o = some w → W'.cell? ⟨b, o, none⟩ = some w) ∧
      (∀ b o w, m' b o = some w → m b o = some w ∨ W.heap.size ≤ b) ∧ Below W.heap.size W W' := fun E st a W' hk hs => by
    obtain ⟨ws, hws, prs, E', ob', F, e1, i1, r1, hnd, hk'⟩ := hR hs.inv hs.fr hk
    exact ⟨hs.defers, _, run_results hws, _, prs, E'.μ, F, rfl, hk', OwnRes.of_list r1, hnd, Mem.le_trans hs.had e1.le.μ, i1.mu, fun b o w hm => (e1.grew b o w hm).elim (hs.grew b o w) .inr, hs.below⟩
  refine vcC_spec hT hfs (ctx_ok hT hfs d) c (κ := ⟨R k, fun _ _ => False, R k, fun _ _ => False⟩) (fun E st a W' hk hs => ?_) (fun id E st a W' hk hs => False.elim hk) (fun E st a W' hk hs => ?_) (fun l E st a W' hk hs => False.elim hk) h0 hvc
  · exact fin E st a W' hk hs
  · exact fin E st a W' hk hs

theorem Sound.of_bodyL (bs : List Bool) (d : Nat) {P : Program} (hT : TTok P) (hfs : Enters P) {f : FuncId} {fn : Func} {c : Code} {Tf : List PR → (List PR → Prop) → Prop} (hf : P.funcs[f]? = some fn) (hb : fn.body = some c)
    (h : ∀ ar, ar = arS → ∀ Γ, Γ = ctx P d → ∀ args k, Tf args k → vcFunL bs ar Γ fn c args k) : Sound P f Tf :=
  Sound.of_ret bs d hT hfs hf hb (retP_ok hT _) fun args k hk => h arS rfl _ rfl args k hk

/-- The same, own slices handed out. -/
theorem Sound.of_bodyO (bs : List Bool) (d : Nat) {P : Program} (hT : TTok P) (hfs : Enters P) {f : FuncId} {fn : Func} {c : Code} {Tf : List PR → (List PR → Prop) → Prop} (hf : P.funcs[f]? = some fn) (hb : fn.body = some c)
    (h : ∀ ar, ar = arS → ∀ Γ, Γ = ctx P d → ∀ args k, Tf args k → vcFunO bs ar Γ fn c args k) : Sound P f Tf :=
  Sound.of_ret bs d hT hfs hf hb (retO_ok hT _) fun args k hk => h arS rfl _ rfl args k hk

/-- The same, by other words. -/
theorem Sound.of_bodyT (bs : List Bool) (d : Nat) {P : Program} (hT : TTok P) (hfs : Enters P) {f : FuncId} {fn : Func} {c : Code} {Tf : List PR → (List PR → Prop) → Prop} (hf : P.funcs[f]? = some fn) (hb : fn.body = some c)
    (h : ∀ ar, ar = arS → ∀ Γ, Γ = ctx P d → ∀ args k, Tf args k → vcFunT bs ar Γ fn c args (retT ar) k) : Sound P f Tf :=
  Sound.of_ret bs d hT hfs hf hb (retT_ok hT _) fun args k hk => h arS rfl _ rfl args k hk

theorem Sound.of_bodyI (d : Nat) {P : Program} (hT : TTok P) (hfs : Enters P) {f : FuncId} {fn : Func} {c : Code} {Tf : List PR → (List PR → Prop) → Prop} (hf : P.funcs[f]? = some fn) (hb : fn.body = some c)
    (h : ∀ ar, ar = arS → ∀ Γ, Γ = ctx P d → ∀ args k, Tf args k → vcFun ar Γ fn c args k) : Sound P f Tf := Sound.of_bodyL [] d hT hfs hf hb h

theorem Sound.of_body {P : Program} (hT : TTok P) (hfs : Enters P) {f : FuncId} {fn : Func} {c : Code} {Tf : List PR → (List PR → Prop) → Prop} (hf : P.funcs[f]? = some fn) (hb : fn.body = some c)
    (h : ∀ ar, ar = arS → ∀ Γ, Γ = ctx P 0 → ∀ args k, Tf args k → vcFun ar Γ fn c args k) : Sound P f Tf := Sound.of_bodyI 0 hT hfs hf hb h

theorem OwnRs.length {B : Nat} {m : Mem} {W : World} : ∀ {rs : List PR} {ws : List Value} {F : List Nat}, OwnRs B m W rs ws F → ws.length = rs.length
  | [], _, _, h => by rw [h.1]; rfl
  | _ :: _, _, _, ⟨_, _, _, _, e, _, _, h⟩ => by rw [e]; simp [OwnRs.length h]

theorem adRs_len : ∀ (n : Nat) (rs : List PR), (tsSV (adRs n rs).1).length = rs.length
  | _, [] => rfl
  | n, r :: l => by simp only [adRs, tsSV, List.length_cons, adRs_len]

/-- A function that eats what it is given. -/
theorem SoundE.of_body (d : Nat) {P : Program} (hT : TTok P) (hfs : Enters P) {f : FuncId} {fn : Func} {c : Code} {Tf : List PR → (List PR → Prop) → Prop} (hf : P.funcs[f]? = some fn) (hb : fn.body = some c)
    (h : ∀ ar, ar = arS → ∀ Γ, Γ = ctx P d → ∀ H args k, Tf args k → vcFunE ar Γ H fn c args k) : SoundE P f Tf := by
  intro args k m W vs F hg hm hr hF hT'
  refine calls_of_wp hf hb ?_
  obtain ⟨H, hH⟩ : ∃ H : Nat → Option Obj, H = fun g => if g ∈ F then none else W.heap[g]? := ⟨_, rfl⟩
  have hvc := h arS rfl _ rfl H args k hT'
  have i0 : Inv 0 ⟨1, fun _ => 0, fun _ => undef, fun _ => [], m, hg⟩ [.wld H] W := by
    refine ⟨Nat.zero_le _, rfl, hm, fun q o hq => ?_, fun i j oi oj g hij hi hj => ?_⟩
    · cases q with
      | zero =>
        simp at hq; subst hq
        refine ⟨rfl, fun g c hc => ?_⟩
        rw [hH] at hc
        simp only at hc
        split at hc
        · cases hc
        · exact hc
      | succ q => simp at hq
    · have h1 := (List.getElem?_eq_some_iff.1 hi).1
      have h2 := (List.getElem?_eq_some_iff.1 hj).1
      simp at h1 h2
      omega
  have hfree : Free ⟨1, fun _ => 0, fun _ => undef, fun _ => [], m, hg⟩ [.wld H] F := fun g hgF j oj hoj hw => by
    cases j with
    | zero =>
      simp at hoj; subst hoj
      obtain ⟨c, hc⟩ := hw
      rw [hH] at hc
      simp only at hc
      rw [if_pos hgF] at hc
      cases hc
    | succ q => simp at hoj
  obtain ⟨E1, a1, r1⟩ := adRs_spec (B := 0) (Nat.le_refl 0) i0 hfree hF hr
  have hlen := hr.length
  have h0 : Sim 0 W m E1 ⟨tsSV (adRs 1 args).1 ++ List.replicate (fn.ntmps - args.length) .un, .wld H :: (adRs 1 args).2⟩ { tmps := vs.toArray ++ Array.replicate (fn.ntmps - vs.toArray.size) undef, defers := [] } W := by
    refine ⟨a1.inv, ?_, Below.refl _ _, fun b o w hm => .inr (Nat.zero_le _), by rw [a1.μ]; exact Mem.le_refl _, rfl⟩
    have := (tsSV_spec r1).undefs (fn.ntmps - args.length)
    simpa [hlen] using this
  have fin : ∀ E st a W', retE H fn.results.toList k st → Sim 0 W m E st a W' → a.defers = [] ∧ ∃ v, (results fn a.tmps).run P W' = .ok v W' ∧ ∃ v' rs, Ending.returned v = .returned v' ∧ k rs ∧ (∀ m' W'', OwnRes 0 m' W'' rs v' []) ∧ W'.os = W.os ∧ W'.tape = W.tape ∧ W'.output = W.output ∧ W.heap.size ≤ W'.heap.size ∧
      ∀ g, g < W.heap.size → g ∉ F → W'.heap[g]? = W.heap[g]? := fun E st a W' hk hs => by
    unfold retE at hk
    split at hk
    · rename_i H' l hob
      obtain ⟨rfl, hk⟩ := hk
      split at hk
      · rename_i svs hsv
        split at hk
        · rename_i prs hp
          obtain ⟨ws, hws, hF2⟩ := resAll_spec (P := P) hT hs.inv hs.fr hsv
          refine ⟨hs.defers, _, run_results hws, _, prs, rfl, hk, fun m' W'' => OwnRes.of_list (plainAll_spec hF2 hp 0 m' W''), hs.below.os, hs.below.tape, hs.below.output, hs.below.size, fun g hg hn => ?_⟩
          have hw := hs.inv.obs 0 (.wld H') (by rw [hob]; rfl)
          obtain ⟨c, hc⟩ : ∃ c, W.heap[g]? = some c := ⟨_, Array.getElem?_eq_getElem hg⟩
          rw [hc]
          refine hw.2 g c ?_
          rw [hH]
          simp only
          rw [if_neg hn]; exact hc
        · exact hk.elim
      · exact hk.elim
    · exact hk.elim
  refine vcC_spec hT hfs (ctx_ok hT hfs d) c (κ := ⟨retE H fn.results.toList k, fun _ _ => False, retE H fn.results.toList k, fun _ _ => False⟩) (fun E st a W' hk hs => ?_) (fun id E st a W' hk hs => False.elim hk) (fun E st a W' hk hs => ?_) (fun l E st a W' hk hs => False.elim hk) h0 hvc
  · exact fin E st a W' hk hs
  · exact fin E st a W' hk hs

/-- A frame of n slots, of which some are known. -/
def mk (n : Nat) : List (Nat × SV) → List SV
  | [] => List.replicate n .un
  | (i, v) :: l => (mk n l).set i v

abbrev pint (n : Int) : SV := .s (.p (.v (.int .i64 n)))

theorem ctx_g {P : Program} : ∀ {d : Nat} {f : FuncId} {args : List PR} {k : List PR → Prop}, best P f args k → (ctx P d).g f args k
  | 0, _, _, _, h => h
  | _ + 1, _, _, _, h => h
theorem ctx_bd {P : Program} : ∀ {d : Nat} {f : FuncId} {fn : Func} {c : Code}, bodyOf P f fn c → (ctx P d).bd f fn c
  | 0, _, _, _, h => h
  | _ + 1, _, _, _, h => h

/-- At a call: a contract that is true, and what it asks. -/
theorem call_by {P : Program} {Γ : Ctx} {d : Nat} {f : FuncId} {Ct : List PR → (List PR → Prop) → Prop} {args : List PR} {k : List PR → Prop} {R : Prop} (hΓ : Γ = ctx P d) (hS : Sound P f Ct) (h : Ct args k) : Γ.g f args k ∨ R := by
  subst hΓ; exact .inl (ctx_g ⟨Ct, hS, h⟩)

/-- The same in a region that draws its order. -/
theorem call_by' {P : Program} {Γ : Ctx} {d : Nat} {f : FuncId} {Ct : List PR → (List PR → Prop) → Prop} {args : List PR} {k : List PR → Prop} (hΓ : Γ = ctx P d) (hS : Sound P f Ct) (h : Ct args k) : Γ.g f args k := by
  subst hΓ; exact ctx_g ⟨Ct, hS, h⟩

/-- At a call: what is handed to it stays the caller's own. -/
theorem call_bor {P : Program} {Γ : Ctx} {d : Nat} {f : FuncId} {Ct : List PR → (List PR → Prop) → Prop} {args : List PR} {k : List PR → Prop} {L R : Prop} (hΓ : Γ = ctx P d) (hS : Sound P f Ct) (h : Ct args k) : L ∨ (Γ.g f args k ∨ R) := by
  subst hΓ; exact .inr (.inl (ctx_g ⟨Ct, hS, h⟩))

/-- At a call: the body is walked in place. -/
theorem call_in {P : Program} {ar : Ar} {Γ : Ctx} {d : Nat} {f : FuncId} {fn : Func} {c : Code} {st : List Value → Func → St} {κ : List Value → Func → Kt} {L L2 L3 : Prop} (har : ar = arS) (hΓ : Γ = ctx P (d + 1)) (hf : P.funcs[f]? = some fn) (hb : fn.body = some c)
    (h : ∀ Γ', Γ' = ctx P d → ∀ vs, vcC ar Γ' c (st vs fn) (κ vs fn)) : L ∨ (L2 ∨ ((∃ fn c, Γ.bd f fn c ∧ ∀ vs, Γ.inl c (st vs fn) (κ vs fn)) ∨ L3)) := by
  subst hΓ; subst har
  exact .inr (.inr (.inl ⟨fn, c, ⟨hf, hb⟩, fun vs => h _ rfl vs⟩))

theorem ctx_e {P : Program} : ∀ {d : Nat} {f : FuncId} {args : List PR} {k : List PR → Prop}, bestE P f args k → (ctx P d).e f args k
  | 0, _, _, _, h => h
  | _ + 1, _, _, _, h => h

/-- At a call: what is handed to it is eaten. -/
theorem eat_by {P : Program} {Γ : Ctx} {d : Nat} {f : FuncId} {Ct : List PR → (List PR → Prop) → Prop} {args : List PR} {k : List PR → Prop} (hΓ : Γ = ctx P d) (hS : SoundE P f Ct) (h : Ct args k) : Γ.e f args k := by
  subst hΓ; exact ctx_e ⟨Ct, hS, h⟩

end Go.Eng
