/-
  Slices of the call's own: made, stored into, copied into.
-/
import Derived.Test.YtgihmigiecfmaaaEngH2
namespace Go.Eng
open Go Go.RowKit

theorem RepX.take {m : Mem} : ∀ {xs : List (List PS)} {sz : Nat} {C : List Value} (n : Nat), RepX m xs sz C → RepX m (xs.take n) sz (C.take (n * sz))
  | [], sz, C, n, h => by rw [show C = [] from h]; simp [RepX]
  | x :: xs, sz, C, 0, h => by simp [RepX]
  | x :: xs, sz, _, n + 1, ⟨w, C', e, hl, hw, hr⟩ => by
    subst e
    have hwl : w.length = sz := by rw [hw.length, hl]
    rw [List.take_succ_cons, show (n + 1) * sz = w.length + n * sz by rw [hwl, Nat.add_mul]; omega, List.take_length_add_append]
    exact ⟨w, _, rfl, hl, hw, hr.take n⟩

theorem RepX.drop {m : Mem} : ∀ {xs : List (List PS)} {sz : Nat} {C : List Value} (n : Nat), RepX m xs sz C → RepX m (xs.drop n) sz (C.drop (n * sz))
  | [], sz, C, n, h => by rw [show C = [] from h]; simp [RepX]
  | x :: xs, sz, C, 0, h => by simpa using h
  | x :: xs, sz, _, n + 1, ⟨w, C', e, hl, hw, hr⟩ => by
    subst e
    have hwl : w.length = sz := by rw [hw.length, hl]
    rw [List.drop_succ_cons, show (n + 1) * sz = w.length + n * sz by rw [hwl, Nat.add_mul]; omega, List.drop_length_add_append]
    exact hr.drop n

theorem RepX.set {m : Mem} {xs : List (List PS)} {sz : Nat} {C cs : List Value} {i : Nat} {x : List PS} (h : RepX m xs sz C) (hx : RepL m x cs) (hl : rlen x = sz) (hi : i < xs.length) :
    RepX m (xs.set i x) sz (C.take (i * sz) ++ cs ++ C.drop ((i + 1) * sz)) := by
  rw [List.set_eq_take_append_cons_drop, if_pos hi, List.append_assoc]
  exact (h.take i).append ⟨cs, _, rfl, hl, hx, h.drop (i + 1)⟩

theorem splice_take {α : Type} (L cs : List α) (p M : Nat) (h : p + cs.length ≤ M) (hM : M ≤ L.length) : (L.take p ++ cs ++ L.drop (p + cs.length)).take M = (L.take M).take p ++ cs ++ (L.take M).drop (p + cs.length) := by
  refine List.ext_getElem? fun q => ?_
  simp only [List.getElem?_take, List.getElem?_append, List.length_append, List.length_take, List.getElem?_drop]
  grind

theorem splice_set {α : Type} (us ws : List α) (v : α) (base i n : Nat) (hwl : ws.length = n) (hi : i < n) (_hfit : base + n ≤ us.length) (hwq : ∀ j, j < n → us[base + j]? = ws[j]?) :
    us.take base ++ ws.set i v ++ us.drop (base + n) = us.take (base + i) ++ [v] ++ us.drop (base + i + 1) := by
  have e : ws = (us.drop base).take n := by
    refine List.ext_getElem? fun q => ?_
    simp only [List.getElem?_take, List.getElem?_drop]
    split
    · rename_i hq; exact (hwq q hq).symm
    · exact List.getElem?_eq_none (by omega)
  subst e
  refine List.ext_getElem? fun q => ?_
  simp only [List.getElem?_append, List.length_append, List.length_set, List.length_take, List.length_drop, List.getElem?_drop, List.getElem?_set, List.getElem?_take, List.length_cons, List.length_nil]
  grind

/-- An own slice whose elements may be written, where it is not nil: its block. -/
theorem OInv.arrBlk {B : Nat} {E : Env} {W : World} {k : Nat} {xs : List (List PS)} {e : TypeId} {sz by_ : Nat} {wr : Bool} (h : OInv B E W k (.arr xs e sz by_ wr)) :
    (E.ov k = .slice none 0 0 ∧ xs = []) ∨ ∃ cap cur, E.ov k = .slice (some ⟨E.ρ k, 0, none⟩) xs.length cap ∧ W.heap[E.ρ k]? = some (.cells cur e (0, 0)) ∧ xs.length ≤ cap ∧ cur.size = cap * sz ∧
      RepX E.μ xs sz (cur.toList.take (xs.length * sz)) ∧ cap ≤ maxLen ∧ B ≤ E.ρ k := by
  obtain ⟨h0, C, h1, h2, h3⟩ := h
  rcases h1.2 with ⟨hv, hn⟩ | ⟨g, cap, cur, hv, hB, hg, hnc, hcm, hcs, htake⟩
  · exact .inl ⟨hv, List.eq_nil_of_length_eq_zero hn⟩
  · have hb : (E.ov k).ownBlock = some g := by rw [hv]; rfl
    have e := (h3 g hb).1
    subst e
    exact .inr ⟨cap, cur, hv, hg, hnc, hcs, by rw [htake]; exact h2, hcm, hB⟩

theorem Inv.setArr {B : Nat} {E : Env} {ob : List Ob} {W : World} {k : Nat} {xs xs' : List (List PS)} {e : TypeId} {sz by_ cap : Nat} {cur : Array Value} {cur' : List Value} (h : Inv B E ob W) (hk : ob[k]? = some (.arr xs e sz by_ true))
    (hv : E.ov k = .slice (some ⟨E.ρ k, 0, none⟩) xs.length cap) (hg : W.heap[E.ρ k]? = some (.cells cur e (0, 0))) (hl : xs'.length = xs.length) (hs : cur'.length = cur.size) (hX : RepX E.μ xs' sz (cur'.take (xs.length * sz))) :
    Inv B E (ob.set k (.arr xs' e sz by_ true)) (W.setRow (E.ρ k) cur'.toArray) := by
  have hlt := (List.getElem?_eq_some_iff.1 hk).1
  have ho := h.obs k _ hk
  obtain ⟨h0, C, h1, h2, h3⟩ := ho
  have hb : (E.ov k).ownBlock = some (E.ρ k) := by rw [hv]; rfl
  have hmu : ∀ o, E.μ (E.ρ k) o = none := fun o => (h3 _ hb).2.1 o (.inl rfl)
  obtain ⟨cap', cur0, hv', hB, hg', hnc, hcm, hcs⟩ : ∃ cap' cur0, E.ov k = .slice (some ⟨E.ρ k, 0, none⟩) xs.length cap' ∧ B ≤ E.ρ k ∧ W.heap[E.ρ k]? = some (.cells cur0 e (0, 0)) ∧ xs.length ≤ cap' ∧ cap' ≤ maxLen ∧ cur0.size = cap' * sz := by
    rcases h1.2 with ⟨hv', _⟩ | ⟨g, cap', cur0, hv', r1, r2, r3, r4, r5, _⟩
    · rw [hv'] at hb; cases hb
    · rw [hv'] at hb
      simp only [Value.ownBlock, Option.some.injEq] at hb
      subst hb
      exact ⟨cap', cur0, hv', r1, r2, r3, r4, r5⟩
  rw [hg] at hg'
  cases hg'
  refine h.change (k := k) (o' := .arr xs' e sz by_ true) (row := some (E.ρ k)) idS ((Env.le_refl E).but k) (by simp [h.n]) (fun j oj hj hoj => ⟨oj, ?_, by cases oj <;> rfl⟩) (by simp [hlt]) (idS_ok (Env.le_refl E)) (grownBy_setRow W _ _)
    ⟨h0, _, ⟨?_, .inr ⟨E.ρ k, cap', cur'.toArray, by rw [hl]; exact hv', hB, setRow_heap W _ _ _ e _ hg, by rw [hl]; exact hnc, hcm, by simp [hs, hcs], rfl⟩⟩, by rw [hl]; simpa using hX, fun g hg1 => ?_⟩ (fun b o w hm => ?_) (fun b o w hm => .inl hm) (fun g eg j oj hj hoj hwj => ?_) (fun g eg j oj hj hoj hwj => ?_)
  · rw [List.getElem?_set_ne (Ne.symm hj)] at hoj; exact hoj
  · simp only [List.length_take]
    rw [hl, Nat.min_eq_left]
    simp only [hs, hcs]
    exact Nat.mul_le_mul_right _ hnc
  · rw [hb] at hg1
    cases hg1
    exact ⟨rfl, fun o _ => hmu o, fun e => by cases e⟩
  · refine (grownBy_setRow W _ _).cell (h.mu b o w hm) fun e' => ?_
    have e'' : b = E.ρ k := Option.some.inj e'
    rw [e'', hmu o] at hm
    cases hm
  · cases eg; exact h.apart k j _ oj _ (Ne.symm hj) hk hoj hb hwj
  · exact h.apart k j _ oj g (Ne.symm hj) hk hoj eg hwj

/-! ### Stores -/
/-- One plain cell of the kind that a piece of a row holds. -/
def plainOf : SV → Option Value
  | .s (.lit k n) => some (.int k n)
  | .s (.bl b) => some (.bool b)
  | .s (.p (.v x)) => some x
  | _ => none

theorem plainOf_spec {E : Env} {sv : SV} {w x : Value} (h : RepS E sv w) (hp : plainOf sv = some x) : w = x ∧ x.oneCell' = true := by
  unfold plainOf at hp
  split at hp
  · cases hp; exact ⟨h, rfl⟩
  · cases hp; exact ⟨h, rfl⟩
  · cases hp; exact ⟨h.1, h.2⟩
  · cases hp

def rowOf : PR → List PS
  | .s x => [.c x]
  | .a ps => ps
  | .ao ps => ps

theorem rowOf_spec {m : Mem} {r : PR} {w : Value} (h : RepR m r w) : ∃ cs : List Value, w.cells = cs.toArray ∧ RepL m (rowOf r) cs := by
  cases r with
  | s x => exact ⟨[w], cells_oneCell (RepV.oneCell h), w, [], rfl, h, rfl⟩
  | a ps => obtain ⟨ws, e, hr⟩ := h; exact ⟨ws, by rw [e]; rfl, hr⟩
  | ao ps => exact h.elim

def storeP (ar : Ar) (st : St) (t : TypeId) (p x : SV) (k : SV → St → Prop) : Prop :=
  match p with
  | .s (.ptr j off) => match st.ob[j]? with
    | some (.box row) => match stRow (tt t) row off x with
      | some row' => k .un ⟨st.fr, st.ob.set j (.box row')⟩
      | none => False
    | _ => False
  | .s (.ept j base sz i off) => match st.ob[j]? with
    | some (.arr _ _ _ _ _) => match x.use ar st.ob with
      | some (r, ob') => match ob'[j]? with
        | some (.arr xs e sz' by_ wr) => match wr with
          | true => if base = 0 ∧ off = 0 ∧ sz = sz' ∧ (tt t).d.ok = true ∧ (tt t).size = sz then (True → i < xs.length ∧ rlen (rowOf r) = sz) ∧ k .un ⟨st.fr, ob'.set j (.arr (ar.setx xs i (rowOf r)) e sz by_ true)⟩ else False
          | false => False
        | _ => False
      | none => False
    | some (.box row) => match rseg row base with
      | some (n, ws) => match plainOf x with
        | some v => match rsegset row base (ar.set ws i v) with
          | some row' => if sz = 1 ∧ off = 0 ∧ (tt t).d.ok = true ∧ (tt t).size = 1 then (True → i < n) ∧ k .un ⟨st.fr, st.ob.set j (.box row')⟩ else False
          | none => False
        | none => False
      | none => False
    | _ => False
  | _ => False

theorem storeP_spec {P : Program} (hT : TTok P) {B : Nat} {W0 : World} {m0 : Mem} {E : Env} {st : St} {a : Act} {W : World} {o : Oper} {t : TypeId} {p x : Operand} {k : SV → St → Prop} {next : Act → World → Prop} {Q : Exit → Act → World → Prop}
    (h : Sim B W0 m0 E st a W) (ho : o.op = .store t p x) (hk : storeP arS st t (st.ev 0 p) (st.ev t x) k) (hn : Nexts false B W0 m0 a W o next k) : o.wp P a W next Q := by
  have hp := RepS.ev h.fr 0 p
  have hx := RepS.ev h.fr t x
  generalize st.ev 0 p = sp at *
  generalize st.ev t x = sx at *
  unfold storeP at hk
  split at hk
  · rename_i j off
    split at hk
    · rename_i row hj
      split at hk
      · rename_i row' hst
        exact storeBox_spec hT h ho hp hx hj hst hk hn
      · exact hk.elim
    · exact hk.elim
  · rename_i j base sz i off
    split at hk
    · split at hk
      · rename_i r ob' hu
        obtain ⟨E1, e1, i1, r1⟩ := SV.use_spec h.inv hx hu
        have h1 := h.ext e1 i1
        have hp1 := hp.mono e1.le
        split at hk
        · rename_i xs e sz' by_ wr hj
          split at hk
          · split at hk
            · rename_i hc
              obtain ⟨rfl, rfl, rfl, hok, hsz⟩ := hc
              obtain ⟨hside, hk⟩ := hk
              obtain ⟨hi, hrl⟩ := hside trivial
              obtain ⟨cs, hcs, hL⟩ := rowOf_spec r1
              have hcl : cs.length = sz := by rw [hL.length, hrl]
              obtain ⟨ti, z, hti, hsize, _⟩ := (hT.of_ok hok).info
              rcases (i1.obs j _ hj).arrBlk with ⟨_, hn0⟩ | ⟨cap, cur, hv, hg, hnc, hcsz, hX, hcm, hB⟩
              · rw [hn0] at hi; simp at hi
              · have hfit : (i + 1) * sz ≤ cur.size := by rw [hcsz]; exact Nat.mul_le_mul_right _ (by omega)
                have hm : (i + 1) * sz = i * sz + sz := by rw [Nat.add_mul, Nat.one_mul]
                have := run_store_box (P := P) (t := t) (v := a.eval x) (off := i * sz) hg hti (by rw [hcs]; simp [hcl, hsize, hsz]) (by rw [hcs]; simp; omega) (by rw [hcs]; simpa using hL.all_oneCell)
                rw [hcs] at this
                refine wp_skipped (w' := W.setRow (E1.ρ j) (cur.toList.take (i * sz) ++ cs ++ cur.toList.drop (i * sz + cs.length)).toArray) ?_ (hn _ _ E1 _ _ hk ⟨?_, h1.fr, below_setRow h.below hB _, h1.grew, h1.had, h1.defers⟩ trivial (fun e => by cases e))
                · unfold execOp
                  simp only [ho, hp1.2, Nat.zero_add, Nat.add_zero]
                  simp at this
                  simp [this]
                · refine i1.setArr hj hv hg (by simp [arS]) (by simp; omega) ?_
                  have hset := hX.set (i := i) hL hrl hi
                  have e1 := splice_take cur.toList cs (i * sz) (xs.length * sz) (by have := Nat.mul_le_mul_right sz (show i + 1 ≤ xs.length by omega); omega) (show xs.length * sz ≤ cur.size by rw [hcsz]; exact Nat.mul_le_mul_right _ hnc)
                  rw [hm, ← hcl] at hset
                  rw [hcl] at hset e1
                  rw [hcl, e1]
                  exact hset
            · exact hk.elim
          · exact hk.elim
        · exact hk.elim
      · exact hk.elim
    · rename_i row hj
      split at hk
      · rename_i n ws hs
        split at hk
        · rename_i v hv
          split at hk
          · rename_i row' hst
            split at hk
            · rename_i hc
              obtain ⟨rfl, rfl, hok, hsz⟩ := hc
              obtain ⟨hside, hk⟩ := hk
              have hi := hside trivial
              obtain ⟨hB, ⟨ty, us, hg, hr⟩, hmu⟩ := h.inv.obs j _ hj
              obtain ⟨hwl, hfit, hseg⟩ := hr.seg hs
              obtain ⟨ev, h1⟩ := plainOf_spec hx hv
              obtain ⟨ti, z, hti, hsize, _⟩ := (hT.of_ok hok).info
              have hcells : (a.eval x).cells = #[v] := by rw [ev]; exact cells_oneCell h1
              have := run_store_box (P := P) (t := t) (v := a.eval x) (off := base + i) hg hti (by rw [hcells]; simp [hsize, hsz]) (by rw [hcells]; simp; omega) (by rw [hcells]; simpa using h1)
              rw [hcells] at this
              have hone : ∀ w ∈ ws.set i v, w.oneCell' = true := fun w hw => by
                rcases List.mem_or_eq_of_mem_set hw with hw | rfl
                · obtain ⟨q, hq, e⟩ := List.getElem_of_mem hw
                  exact (hseg q w (by rw [List.getElem?_eq_getElem hq, e])).2
                · exact h1
              have hset := hr.segset hs hst (by simp [arS, hwl]) hone
              have e1 := splice_set us ws v base i n hwl hi hfit fun j hj => by
                have hw : ws[j]? = some (ws[j]'(by omega)) := List.getElem?_eq_getElem _
                rw [hw]; exact (hseg j _ hw).1
              rw [show arS.set ws i v = ws.set i v from rfl] at hst
              refine wp_skipped (w' := W.setRow (E.ρ j) (us.take (base + i) ++ [v] ++ us.drop (base + i + 1)).toArray) ?_ (hn _ _ E _ _ hk ⟨h.inv.setBox hj (by rw [← e1]; exact hset), h.fr, below_setRow h.below hB _, h.grew, h.had, h.defers⟩ trivial (fun e => by cases e))
              unfold execOp
              simp only [ho, hp.2, Nat.mul_one, Nat.add_zero]
              simp at this
              simp [this]
            · exact hk.elim
          · exact hk.elim
        · exact hk.elim
      · exact hk.elim
    · exact hk.elim
  · exact hk.elim

end Go.Eng
