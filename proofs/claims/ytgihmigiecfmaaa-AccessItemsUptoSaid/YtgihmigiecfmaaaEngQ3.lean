/-
  Operations on own slices whose rows hold own slices.
-/
import Derived.Test.YtgihmigiecfmaaaEngQ2
namespace Go.Eng
open Go Go.RowKit
set_option linter.unusedVariables false

/-- Does the operand name such a slice, or a place in it? -/
def treAt (st : St) : SV → Bool
  | .s (.own j) => match st.ob[j]? with
    | some (.tre _ _ _ _ _ _) => true
    | _ => false
  | .s (.ept j _ _ _ _) => match st.ob[j]? with
    | some (.tre _ _ _ _ _ _) => true
    | _ => false
  | _ => false

def tIndexP (ar : Ar) (st : St) (t : TypeId) (x i : SV) (k : SV → Prop) : Prop :=
  match i with
  | .s ci => match intOf ci with
    | some (_, n, _) => match (tt t).d with
      | .slice e => match (tt e).d.ok with
        | true => match x with
          | .s (.own j) => match st.ob[j]? with
            | some (.tre xs _ _ sz _ _) => if sz = (tt e).size then (True → 0 ≤ n ∧ n < (xs.length : Int)) ∧ k (.s (.ept j 0 sz (ar.nat n) 0)) else False
            | _ => False
          | _ => False
        | false => False
      | _ => False
    | none => False
  | _ => False

theorem tIndexP_spec {P : Program} (hT : TTok P) {B : Nat} {E : Env} {st : St} {a : Act} {W : World} {o : Oper} {t : TypeId} {x i : Operand} {k : SV → Prop}
    (h : Inv B E st.ob W) (hF : RepF E st.fr a.tmps.toList) (ho : o.op = .indexAddr t x i) (hk : tIndexP arS st t (st.ev 0 x) (st.ev 0 i) k) : ∃ sv v, k sv ∧ (∀ W, (execOp a.eval o).run P W = .ok (.value v) W) ∧ RepS E sv v := by
  have hx := RepS.ev hF 0 x
  have hi := RepS.ev hF 0 i
  generalize st.ev 0 x = sx at *
  generalize st.ev 0 i = si at *
  unfold tIndexP at hk
  split at hk
  · rename_i ci
    split at hk
    · rename_i kk n l hci
      have ei := intOf_spec hi hci
      split at hk
      · rename_i e hd
        obtain ⟨d, hd1, hd2⟩ := (hT.of_ok (t := t) (by rw [hd]; rfl)).desc
        rw [hd] at hd2
        cases d <;> try exact False.elim hd2
        cases hd2
        split at hk
        · rename_i hoke
          obtain ⟨ti, z, hti, hsz, _⟩ := (hT.of_ok hoke).info
          split at hk
          · rename_i j
            split at hk
            · rename_i xs s e' sz by_ lt hj
              split at hk
              · rename_i hszz
                obtain ⟨hs, hk⟩ := hk
                have hs := hs trivial
                rcases (h.obs j _ hj).treBlk with ⟨_, hn, _⟩ | ⟨cap, cur, C1, C2, G1, G2, hv, _⟩
                · rw [hn] at hs; simp at hs; omega
                · refine ⟨_, _, hk, fun W => ?_, hx.1, rfl⟩
                  have := run_indexAt_slice (P := P) (W := W) (A := ⟨E.ρ j, 0, none⟩) (len := xs.length) (cap := cap) (kk := kk) hd1 hti hs
                  unfold execOp
                  simp only [ho, hx.2.1, hv, ei]
                  simp [this, Addr.add_mid, hsz, hszz, arS]
              · exact hk.elim
            · exact hk.elim
          · exact hk.elim
        · exact hk.elim
      · exact hk.elim
    · exact hk.elim
  · exact hk.elim

def tLenP (ar : Ar) (st : St) (t : TypeId) (x : SV) (k : SV → Prop) : Prop :=
  match (tt t).d with
  | .slice _ => match x with
    | .s (.own j) => match st.ob[j]? with
      | some (.tre xs _ _ _ _ _) => k (.s (.p (.v (.int .i64 (ar.len xs)))))
      | _ => False
    | _ => False
  | _ => False

theorem tLenP_spec {P : Program} (hT : TTok P) {B : Nat} {E : Env} {st : St} {a : Act} {W : World} {o : Oper} {t : TypeId} {x : Operand} {k : SV → Prop} (h : Inv B E st.ob W) (hF : RepF E st.fr a.tmps.toList)
    (ho : o.op = .call { callee := .builtin .len, args := #[x], argTypes := #[t] }) (hk : tLenP arS st t (st.ev t x) k) : ∃ sv v, k sv ∧ (∀ W, (execOp a.eval o).run P W = .ok (.value v) W) ∧ RepS E sv v := by
  have hx := RepS.ev hF t x
  generalize st.ev t x = sx at *
  unfold tLenP at hk
  split at hk
  · rename_i e hd
    obtain ⟨d, hd1, hd2⟩ := (hT.of_ok (t := t) (by rw [hd]; rfl)).desc
    rw [hd] at hd2
    cases d <;> try exact False.elim hd2
    cases hd2
    split at hk
    · rename_i j
      split at hk
      · rename_i xs s e' sz by_ lt hj
        obtain ⟨_, ad, cap, C1, C2, G1, G2, hw, _⟩ := (h.obs j _ hj).1
        refine ⟨_, .int .i64 (xs.length : Int), hk, fun W => ?_, rfl, rfl⟩
        have e1 : a.eval x = .slice ad xs.length cap := hx.2.1.trans hw
        unfold execOp
        simp only [ho]
        simp [resolve, invoke, builtin, Builtin.len_, run_underlying hd1, goInt, e1]
      · exact hk.elim
    · exact hk.elim
  · exact hk.elim

/-! ### Loads -/
def ownB : PV → Bool
  | .ow _ _ _ _ => true
  | .on _ _ _ _ _ => true
  | _ => false

def anyOwn : List PS → Bool
  | [] => false
  | .c x :: l => match ownB x with | true => true | false => anyOwn l
  | .r _ _ :: l => anyOwn l

/-- The row as it stands when what it owned has been taken out. -/
def blankL (w : Nat → Value) (n : Nat) : List PS → List PS
  | [] => []
  | .c x :: l => match ownB x with | true => .c (.v (w n)) :: blankL w (n + 1) l | false => .c x :: blankL w n l
  | .r k ws :: l => .r k ws :: blankL w n l

/-- A piece of plain cells in which the cell lies, and where in it. -/
def pfind : List PS → Nat → Option (List Value × Nat)
  | [], _ => none
  | .c _ :: l, off => match off with
    | 0 => none
    | o + 1 => pfind l o
  | .r n ws :: l, off => if off < n then some (ws, off) else pfind l (off - n)

def pfput (ar : Ar) : List PS → Nat → Value → List PS
  | [], _, _ => []
  | .c x :: l, off, v => match off with
    | 0 => .c x :: l
    | o + 1 => .c x :: pfput ar l o v
  | .r n ws :: l, off, v => if off < n then .r n (ar.set ws off v) :: l else .r n ws :: pfput ar l (off - n) v

section
variable {B : Nat} {m : Mem} {W : World}

theorem OwnV.rep {x : PV} {w : Value} {F : List Nat} (hx : ownB x = false) (h : OwnV B m W x w F) : RepV m x w ∧ F = [] := by
  cases x with
  | v x => exact ⟨h.2, h.1⟩
  | sl xs s => exact ⟨h.2, h.1⟩
  | ow _ _ _ _ => cases hx
  | on _ _ _ _ _ => cases hx

theorem OwnL.rep : ∀ {row : List PS} {ws : List Value} {F : List Nat}, anyOwn row = false → OwnL B m W row ws F → RepL m row ws
  | [], _, _, _, h => h.1
  | .c x :: l, _, _, hx, ⟨w, ws', F1, F2, e, eF, hv, hr⟩ => by
    simp only [anyOwn] at hx
    split at hx
    · cases hx
    · rename_i h0; exact ⟨w, ws', e, (OwnV.rep h0 hv).1, OwnL.rep hx hr⟩
  | .r _ _ :: l, _, _, hx, ⟨hl, ho, ws', e, hr⟩ => ⟨hl, ho, ws', e, OwnL.rep (row := l) hx hr⟩

theorem OwnL.blank : ∀ {row : List PS} {ws : List Value} {F : List Nat}, OwnL B m W row ws F → ∃ w : Nat → Value, ∀ n, OwnL B m W (blankL (fun q => w (q - n)) n row) ws []
  | [], _, _, h => ⟨fun _ => undef, fun n => ⟨h.1, rfl⟩⟩
  | .c x :: l, _, _, ⟨w, ws', F1, F2, e, eF, hv, hr⟩ => by
    obtain ⟨f, hf⟩ := OwnL.blank hr
    cases hx : ownB x with
    | true =>
      refine ⟨fun q => match q with | 0 => w | q + 1 => f q, fun n => ?_⟩
      simp only [blankL, hx, Nat.sub_self]
      refine ⟨w, ws', [], [], e, rfl, ⟨rfl, ?_⟩, ?_⟩
      · rw [RepV]; exact ⟨rfl, hv.oneC⟩
      · have := hf (n + 1)
        have e2 : blankL (fun q => (match q - n with | 0 => w | q + 1 => f q)) (n + 1) l = blankL (fun q => f (q - (n + 1))) (n + 1) l := by
          have key : ∀ (l : List PS) (p : Nat), n + 1 ≤ p → blankL (fun q => (match q - n with | 0 => w | q + 1 => f q)) p l = blankL (fun q => f (q - (n + 1))) p l := by
            intro l
            induction l with
            | nil => intro p _; rfl
            | cons y l ih =>
              intro p hp
              cases y with
              | c y =>
                simp only [blankL]
                split
                · rw [ih (p + 1) (by omega)]
                  congr 3
                  have : p - n = (p - (n + 1)) + 1 := by omega
                  rw [this]
                · rw [ih p hp]
              | r k us => simp only [blankL]; rw [ih p hp]
          exact key l (n + 1) (Nat.le_refl _)
        rw [e2]; exact this
    | false =>
      refine ⟨f, fun n => ?_⟩
      simp only [blankL, hx]
      obtain ⟨h1, h2⟩ := OwnV.rep hx hv
      subst h2
      exact ⟨w, ws', [], [], e, rfl, hv, hf n⟩
  | .r k us :: l, _, _, ⟨hl, ho, ws', e, hr⟩ => by
    obtain ⟨f, hf⟩ := OwnL.blank hr
    exact ⟨f, fun n => ⟨hl, ho, ws', e, hf n⟩⟩

theorem rlen_blank (w : Nat → Value) : ∀ (row : List PS) (n : Nat), rlen (blankL w n row) = rlen row
  | [], _ => rfl
  | .c x :: l, n => by
    simp only [blankL]
    split
    · simp only [rlen, PS.len, rlen_blank w l]
    · simp only [rlen, PS.len, rlen_blank w l]
  | .r _ _ :: l, n => by simp only [blankL, rlen, PS.len, rlen_blank w l]

theorem OwnL.pfind : ∀ {row : List PS} {ws : List Value} {F : List Nat} {off q : Nat} {us : List Value}, OwnL B m W row ws F → Eng.pfind row off = some (us, q) → ws[off]? = us[q]? ∧ (∀ u ∈ us, u.oneCell' = true) ∧ off < ws.length
  | [], _, _, _, _, _, _, h => by cases h
  | .c x :: l, _, _, 0, _, _, _, h => by cases h
  | .c x :: l, _, _, o + 1, _, _, ⟨w, ws', F1, F2, e, eF, hv, hr⟩, h => by
    subst e
    obtain ⟨h1, h2, h3⟩ := OwnL.pfind hr (show Eng.pfind l o = _ from h)
    exact ⟨by simpa using h1, h2, by simpa using h3⟩
  | .r n us :: l, _, _, off, q, _, ⟨hl, ho, ws', e, hr⟩, h => by
    subst e
    simp only [Eng.pfind] at h
    split at h
    · rename_i hlt
      cases h
      exact ⟨List.getElem?_append_left (by omega), ho, by simp; omega⟩
    · obtain ⟨h1, h2, h3⟩ := OwnL.pfind hr h
      exact ⟨by rw [List.getElem?_append_right (by omega), hl]; exact h1, h2, by simp; omega⟩

theorem OwnL.pfput : ∀ {row : List PS} {ws : List Value} {F : List Nat} {off q : Nat} {us : List Value} {v : Value}, OwnL B m W row ws F → Eng.pfind row off = some (us, q) → v.oneCell' = true → OwnL B m W (Eng.pfput arS row off v) (ws.set off v) F
  | [], _, _, _, _, _, _, _, h, _ => by cases h
  | .c x :: l, _, _, 0, _, _, _, _, h, _ => by cases h
  | .c x :: l, _, _, o + 1, _, _, _, ⟨w, ws', F1, F2, e, eF, hv, hr⟩, h, h1 => by
    subst e
    exact ⟨w, _, F1, F2, rfl, eF, hv, OwnL.pfput hr (show Eng.pfind l o = _ from h) h1⟩
  | .r n us :: l, _, _, off, q, _, v, ⟨hl, ho, ws', e, hr⟩, h, h1 => by
    subst e
    simp only [Eng.pfind] at h
    simp only [Eng.pfput]
    split at h
    · rename_i hlt
      rw [if_pos hlt]
      refine ⟨by simpa [arS] using hl, fun u hu => ?_, ws', by rw [List.set_append_left _ _ (by omega)]; rfl, hr⟩
      rcases List.mem_or_eq_of_mem_set hu with h | rfl
      · exact ho u h
      · exact h1
    · rename_i hge
      rw [if_neg hge]
      refine ⟨hl, ho, _, ?_, OwnL.pfput hr h h1⟩
      rw [List.set_append_right _ _ (by omega), hl]

theorem rlen_pfput (v : Value) : ∀ (row : List PS) (off : Nat), rlen (Eng.pfput arS row off v) = rlen row
  | [], _ => rfl
  | .c x :: l, 0 => rfl
  | .c x :: l, o + 1 => by simp only [Eng.pfput, rlen, rlen_pfput v l]
  | .r n ws :: l, off => by
    simp only [Eng.pfput]
    split
    · simp only [rlen, PS.len]
    · simp only [rlen, rlen_pfput v l]
end

/-- A cell of such a slice. -/
theorem tre_cell {B : Nat} {E : Env} {W : World} {k : Nat} {xs s : List (List PS)} {e : TypeId} {sz by_ cap q : Nat} {cur : Array Value} {C1 C2 : List Value} {n : Nat} {v : Value} (hg : W.heap[E.ρ k]? = some (.cells cur e (0, 0))) (htk : cur.toList.take n = C1 ++ C2) (hq : C1[q]? = some v) :
    W.cell? ⟨E.ρ k, q, none⟩ = some v := by
  rw [cell_of_row W _ q _ e (0, 0) hg]
  have h1 : (C1 ++ C2)[q]? = some v := by rw [List.getElem?_append_left (List.getElem?_eq_some_iff.1 hq).1]; exact hq
  rw [← htk, List.getElem?_take] at h1
  split at h1
  · simpa using h1
  · cases h1

theorem nodup_mid {A f D : List Nat} (h : (A ++ (f ++ D)).Nodup) : f.Nodup := (List.nodup_append.1 (List.nodup_append.1 h).2.1).1

/-- What was taken out of the very place is still at hand, or it is looked at. -/
def lentOr (lt : Option (Nat × Nat × Nat × List PS)) (i off : Nat) (c : Prop) (k : Nat → Prop) (r : Prop) : Prop :=
  match lt with
  | some (i', off', q, _) => (c ∧ i = i' ∧ off = off' ∧ k q) ∨ r
  | none => r

def tLoadM (ar : Ar) (st : St) (t : TypeId) (j : Nat) (xs s : List (List PS)) (e : TypeId) (sz by_ i off : Nat) (k : SV → St → Prop) : Prop :=
  ∃ row, xs[i]? = some row ∧ match pmid row off (tt t).size with
    | some (a, m, c) => match (tt t).d.agg with
      | false => match m with
        | [.c x] => match ownB x with
          | true => ∀ w, k (.s (adV st.ob.length x).1) ⟨st.fr, st.ob.set j (.tre (ar.setx xs i (a ++ ([.c (.v w)] ++ c))) s e sz by_ (some (i, off, st.ob.length, a ++ ([.c (.v w)] ++ c)))) ++ (adV st.ob.length x).2⟩
          | false => k (.s (pvcell x)) st
        | _ => False
      | true => match anyOwn m with
        | true => ∀ w : Nat → Value, k (.a (adL st.ob.length m).1) ⟨st.fr, st.ob.set j (.tre (ar.setx xs i (a ++ (blankL w 0 m ++ c))) s e sz by_ none) ++ (adL st.ob.length m).2⟩
        | false => k (.a (segs m)) st
    | none => match (tt t).d.agg with
      | false => match pfind row off with
        | some (us, q) => ∃ v, (True → us[q]? = some v) ∧ k (.s (.p (.v v))) st
        | none => False
      | true => False

def tLoadP (ar : Ar) (st : St) (t : TypeId) (p : SV) (k : SV → St → Prop) : Prop :=
  match p with
  | .s (.ept j base sz i off) => match st.ob[j]? with
    | some (.tre xs s e sz' by_ lt) => if base = 0 ∧ sz = sz' ∧ (tt t).d.ok = true then lentOr lt i off ((tt t).d.agg = false) (fun q => k (.s (.own q)) st) (tLoadM ar st t j xs s e sz by_ i off k)
      else False
    | _ => False
  | _ => False

/-- What stands in a piece of a row is taken out. -/
theorem Inv.treTake {B : Nat} {E : Env} {ob : List Ob} {W : World} {j i off n : Nat} {xs s : List (List PS)} {row a mm c : List PS} {e : TypeId} {sz by_ : Nat} {t : Option (Nat × Nat × Nat × List PS)}
    (h : Inv B E ob W) (hj : ob[j]? = some (.tre xs s e sz by_ t)) (hi : xs[i]? = some row) (hp : pmid row off n = some (a, mm, c)) :
    ∃ f ws, (ws.length = n ∧ off + n ≤ sz) ∧ (∀ q v, ws[q]? = some v → W.cell? ⟨E.ρ j, i * sz + off + q, none⟩ = some v) ∧ OwnL B E.μ W mm ws f ∧ f.Nodup ∧
      ∀ mm', rlen mm' = n → OwnL B E.μ W mm' ws [] → ∃ E', E.le E' ∧ E'.μ = E.μ ∧ E'.n = E.n ∧ Inv B E' (ob.set j (.tre (xs.set i (a ++ (mm' ++ c))) s e sz by_ none)) W ∧ Free E' (ob.set j (.tre (xs.set i (a ++ (mm' ++ c))) s e sz by_ none)) f ∧ E'.ρ j ∈ E'.bl j ∧ E'.ρ j = E.ρ j := by
  have ho := h.obs j _ hj
  rcases ho.treBlk with ⟨_, hn, _⟩ | ⟨cap, cur, C1, C2, G1, G2, hv, hg, hcap, hcm, hcs, hB, htk, hX1, hX2, hbl, h0, hmu⟩
  · rw [hn] at hi; simp at hi
  · obtain ⟨A, f, D, ws, e1, e2, e3, e4, e5, e6⟩ := hX1.piece hi hp
    have hnd : (E.bl j).Nodup := ho.2.1
    rw [hbl, e1] at hnd
    have hcells : ∀ q v, ws[q]? = some v → W.cell? ⟨E.ρ j, i * sz + off + q, none⟩ = some v := fun q v hq => by
      refine tre_cell (k := j) (E := E) (W := W) hg htk ?_ (xs := xs) (s := s) (by_ := by_) (cap := cap) (sz := sz) (B := B)
      rw [e4 q (by rw [← e2]; exact (List.getElem?_eq_some_iff.1 hq).1)]; exact hq
    rw [List.nodup_cons, List.nodup_append] at hnd
    refine ⟨f, ws, ⟨e2, e3.2⟩, hcells, e5, nodup_mid hnd.2.1, fun mm' hl hm' => ?_⟩
    have hX' := e6 mm' ws [] hl hm'
    have eC : C1.take (i * sz + off) ++ ws ++ C1.drop (i * sz + off + n) = C1 := by
      have : ws = (C1.drop (i * sz + off)).take n := by
        refine List.ext_getElem? fun q => ?_
        simp only [List.getElem?_take, List.getElem?_drop]
        split
        · rename_i hq; exact (e4 q hq).symm
        · rename_i hq; exact List.getElem?_eq_none (by omega)
      rw [this, List.append_assoc, show C1.drop (i * sz + off + n) = (C1.drop (i * sz + off)).drop n by rw [List.drop_drop], List.take_append_drop, List.take_append_drop]
    rw [eC, List.nil_append] at hX'
    have hOw : OwnV B E.μ W (.on (xs.set i (a ++ (mm' ++ c))) s e sz by_) (E.ov j) (E.ρ j :: ((A ++ D) ++ G2)) := by
      rw [hv, ← List.append_assoc a]
      have := OwnV.mkOn (b := by_) (xs := xs.set i (a ++ mm' ++ c)) (s := s) (m := E.μ) (W := W) (B := B) h0 hg hB (by simpa using hcap) hcm hcs (by simpa using htk) hX' hX2 hmu
      simpa using this
    have hsub : ∀ g, g ∈ E.ρ j :: ((A ++ D) ++ G2) → g ∈ E.bl j := fun g hg => by
      rw [hbl, e1]
      simp only [List.mem_cons, List.mem_append] at hg ⊢
      rcases hg with hg | (hg | hg) | hg
      · exact .inl hg
      · exact .inr (.inl (.inl hg))
      · exact .inr (.inl (.inr (.inr hg)))
      · exact .inr (.inr hg)
    obtain ⟨hle, i1⟩ := h.trePut hj (row := none) (grownBy_refl _ _) (fun g e => by cases e) hOw (by
      rw [List.nodup_cons, List.nodup_append]
      refine ⟨fun hm => hnd.1 ?_, nodup_sub hnd.2.1, hnd.2.2.1, fun x hx y hy => ?_⟩
      · simp only [List.mem_append] at hm ⊢
        rcases hm with (hm | hm) | hm
        · exact .inl (.inl hm)
        · exact .inl (.inr (.inr hm))
        · exact .inr hm
      · refine hnd.2.2.2 x ?_ y hy
        simp only [List.mem_append] at hx ⊢
        rcases hx with hx | hx
        · exact .inl hx
        · exact .inr (.inr hx)) (fun g hg => .inl (hsub g hg))
    refine ⟨_, hle, rfl, rfl, i1, fun g hgf q oq hoq hw => ?_, by simp [Env.bls], rfl⟩
    have hgb : g ∈ E.bl j := by rw [hbl, e1]; simp [hgf]
    have hlt := (List.getElem?_eq_some_iff.1 hj).1
    by_cases hq : q = j
    · subst hq
      rw [List.getElem?_set_self hlt] at hoq
      cases hoq
      simp only [Wb, Env.bls, if_true, List.mem_cons, List.mem_append] at hw
      rcases hw with hw | (hw | hw) | hw
      · subst hw
        exact hnd.1 (by simp [hgf])
      · have := (List.nodup_append.1 hnd.2.1).2.2 g hw g (by simp [hgf])
        exact this rfl
      · have := (List.nodup_append.1 (List.nodup_append.1 hnd.2.1).2.1).2.2 g hgf g hw
        exact this rfl
      · exact hnd.2.2.2 g (by simp [hgf]) g hw rfl
    · rw [List.getElem?_set_ne (Ne.symm hq)] at hoq
      rw [Wb_same (E := E) (E' := E.bls j _) rfl rfl (by simp [Env.bls, hq])] at hw
      exact h.apart j q _ oq g (Ne.symm hq) hj hoq hgb hw

/-- It is told where what was taken out stood. -/
theorem Inv.treLend {B : Nat} {E : Env} {ob : List Ob} {W : World} {j i off q : Nat} {xs s : List (List PS)} {row : List PS} {e : TypeId} {sz by_ : Nat} {t : Option (Nat × Nat × Nat × List PS)}
    (h : Inv B E ob W) (hj : ob[j]? = some (.tre xs s e sz by_ t)) (h1 : off < sz) (h2 : q < E.n) (h3 : xs[i]? = some row) (h4 : E.ρ j ∈ E.bl j) (h5 : W.cell? ⟨E.ρ j, i * sz + off, none⟩ = some (E.ov q)) :
    Inv B E (ob.set j (.tre xs s e sz by_ (some (i, off, q, row)))) W := by
  have hlt := (List.getElem?_eq_some_iff.1 hj).1
  have ho := h.obs j _ hj
  refine h.change (k := j) (o' := .tre xs s e sz by_ (some (i, off, q, row))) (row := none) idS ((Env.le_refl E).but j) (by simp [h.n]) (fun q oq hq hoq => ⟨oq, ?_, by cases oq <;> rfl⟩) (by simp [hlt]) (idS_ok (Env.le_refl E)) (grownBy_refl _ _)
    ⟨ho.1, ho.2.1, ho.2.2.1, fun i' off' q' row' e' => by cases e'; exact ⟨h1, h2, h3, h4, h5⟩⟩ h.mu (fun b o w hm => .inl hm) (fun g e => by cases e) (fun g hg q oq hq hoq hw => h.apart j q _ oq g (Ne.symm hq) hj hoq hg hw)
  rw [List.getElem?_set_ne (Ne.symm hq)] at hoq; exact hoq

theorem set_append_left' {α : Type} {l m : List α} {j : Nat} {x : α} (h : j < l.length) : (l ++ m).set j x = l.set j x ++ m := List.set_append_left _ _ h

end Go.Eng
