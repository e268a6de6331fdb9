/-
  Own slices whose rows hold own slices are cut; what was taken out is put back; own slices of plain rows are seen as such.
-/
import Derived.Test.YtgihmigiecfmaaaEngQ6
namespace Go.Eng
open Go Go.RowKit
set_option linter.unusedVariables false

theorem Inv.treCut {B : Nat} {E : Env} {ob : List Ob} {W : World} {k n : Nat} {xs s : List (List PS)} {e : TypeId} {sz bytes : Nat} {lt : Option (Nat × Nat × Nat × List PS)}
    (h : Inv B E ob W) (hk : ob[k]? = some (.tre xs s e sz bytes lt)) (hn : n ≤ xs.length + s.length) :
    ∃ ad cap E', E.ov k = .slice ad xs.length cap ∧ xs.length ≤ cap ∧ n ≤ cap ∧ E.leBut k E' ∧ E'.n = E.n ∧ Inv B E' ((sweepO k ob).set k (.tre ((xs ++ s).take n) ((xs ++ s).drop n) e sz bytes none)) W ∧ E'.μ = E.μ ∧ E'.ov k = .slice ad n cap := by
  have hoj := h.obs k _ hk
  rcases hoj.treBlk with ⟨hv, hx, hs, hb, h0⟩ | ⟨cap, cur, C1, C2, G1, G2, hv, hg, hcap, hcm, hcs, hB, htk, hX1, hX2, hbl, h0, hmu⟩
  · subst hx; subst hs
    have hn0 : n = 0 := by simpa using hn
    subst hn0
    have hOw : OwnV B E.μ W (.on (([] ++ [] : List (List PS)).take 0) (([] ++ [] : List (List PS)).drop 0) e sz bytes) (.slice none 0 0) [] := by
      have := hoj.1
      rw [hv, hb] at this
      simpa using this
    obtain ⟨E', g1, g2, g3, g4, g5⟩ := h.treTurn hk (row := none) (grownBy_refl _ _) (fun g e => by cases e) hOw List.nodup_nil (fun g hg => by simp at hg)
    exact ⟨none, 0, E', by rw [hv]; rfl, Nat.le_refl _, Nat.le_refl _, g1, g2, g5, g3, g4⟩
  · have hX := hX1.append hX2
    obtain ⟨F1, F2, f1, f2, f3⟩ := hX.drop n
    have hnd := hoj.2.1
    rw [hbl, f1] at hnd
    have hlen1 : ((xs ++ s).take n).length = n := by simp; omega
    have hlen2 : ((xs ++ s).take n).length + ((xs ++ s).drop n).length = xs.length + s.length := by simp; omega
    have hOw := OwnV.mkOn (b := bytes) (xs := (xs ++ s).take n) (s := (xs ++ s).drop n) (m := E.μ) (W := W) (B := B) h0 hg hB (by rw [hlen2]; exact hcap) hcm hcs (by rw [hlen2, htk, List.take_append_drop]) f2 f3 hmu
    rw [hlen1] at hOw
    obtain ⟨E', g1, g2, g3, g4, g5⟩ := h.treTurn hk (row := none) (grownBy_refl _ _) (fun g e => by cases e) hOw hnd (fun g hg => .inl (by rw [hbl, f1]; exact hg))
    exact ⟨_, cap, E', hv, by omega, by omega, g1, g2, g5, g3, g4⟩

def tCutP (ar : Ar) (st : St) (t : TypeId) (x : SV) (lo hi : Option Operand) (k : SV → St → Prop) : Prop :=
  match lo with
  | none => match bndOf st hi with
    | some (some bh) => match (tt t).d with
      | .slice e => if (tt e).d.ok = true then
          match x with
          | .s (.own j) => match st.ob[j]? with
            | some (.tre xs s e' sz by_ _) => (True → 0 ≤ bh.1 ∧ bh.1 ≤ ((xs.length + s.length : Nat) : Int)) ∧ k (.s (.own j)) ⟨sweepF j st.fr, (sweepO j st.ob).set j (.tre (ar.mid (ar.app xs s) 0 (natB ar bh)) (ar.frm (ar.app xs s) (natB ar bh)) e' sz by_ none)⟩
            | _ => False
          | _ => False
        else False
      | _ => False
    | _ => False
  | some _ => False

theorem tCutP_spec {P : Program} (hT : TTok P) {B : Nat} {W0 : World} {m0 : Mem} {E : Env} {st : St} {a : Act} {W : World} {o : Oper} {t : TypeId} {x : Operand} {lo hi : Option Operand} {k : SV → St → Prop}
    (hS : Sim B W0 m0 E st a W) (ho : o.op = .slice t x lo hi none) (hk : tCutP arS st t (st.ev 0 x) lo hi k) :
    ∃ sv st' E' v, k sv st' ∧ Sim B W0 m0 E' st' a W ∧ (∀ W', (execOp a.eval o).run P W' = .ok (.value v) W') ∧ RepS E' sv v := by
  have hx := RepS.ev hS.fr 0 x
  generalize st.ev 0 x = sx at *
  unfold tCutP at hk
  split at hk
  · split at hk
    · rename_i bh hbh
      have hh := bndOf_spec hS.fr hbh
      split at hk
      · rename_i e hd
        obtain ⟨d, hd1, hd2⟩ := (hT.of_ok (t := t) (by rw [hd]; rfl)).desc
        rw [hd] at hd2
        cases d <;> try exact False.elim hd2
        cases hd2
        split at hk
        · rename_i hok
          obtain ⟨ti, z, hti, hs1, _⟩ := (hT.of_ok hok).info
          split at hk
          · rename_i j
            split at hk
            · rename_i xs s e' sz by_ lt hj
              obtain ⟨hs, hk⟩ := hk
              have hs := hs trivial
              obtain ⟨ad, cap, E', e1, e2, e2', e3, e4, i1, e5, e6⟩ := hS.inv.treCut (n := bh.1.toNat) hj (by omega)
              have hmid : arS.mid (arS.app xs s) 0 (natB arS bh) = (xs ++ s).take bh.1.toNat := by rw [natB_eq]; simp [arS]
              have hfrm : arS.frm (arS.app xs s) (natB arS bh) = (xs ++ s).drop bh.1.toNat := by rw [natB_eq]; simp [arS]
              rw [hmid, hfrm] at hk
              refine ⟨_, _, E', .slice ad bh.1.toNat cap, hk, ⟨i1, hS.fr.sweep e3, hS.below, by rw [e5]; exact hS.grew, by rw [e5]; exact hS.had, hS.defers⟩, fun W' => ?_, by rw [e4]; exact hx.1, e6.symm, rfl⟩
              have hc : Cuts none (some bh) xs.length cap 0 bh.1.toNat := ⟨rfl, by obtain ⟨q, _⟩ := bh; simp only at *; omega, by omega, by omega, by omega⟩
              have := run_slice_cut (P := P) (ad := ad) (lo := none) W' hd1 hti (vl := none) (show BndIs none none from rfl) hh hc
              have e7 : sliced ad 0 bh.1.toNat cap ti.size = .slice ad bh.1.toNat cap := by
                unfold sliced
                split
                · simp
                · cases ad with
                  | none => simp
                  | some A => cases A; simp [Addr.add]
              rw [e7] at this
              unfold execOp
              simp only [ho, hx.2.1, e1, Option.map_none]
              simp [this]
            · exact hk.elim
          · exact hk.elim
        · exact hk.elim
      · exact hk.elim
    · exact hk.elim
  · exact hk.elim

/-! ### Put back -/
def putOne (ar : Ar) (st : St) (j : Nat) : Option St :=
  match st.ob[j]? with
  | some (.tre xs s e sz by_ (some (i, off, q, row))) => match pmid row off 1 with
    | some (a, _, c) => match j == q with
      | true => none
      | false => match st.ob[q]? with
        | some (.arr ys te tsz tb true) => some ⟨st.fr, (st.ob.set q .gone).set j (.tre (ar.setx xs i (a ++ ([.c (.ow ys te tsz tb)] ++ c))) s e sz by_ none)⟩
        | some (.tre ys ss te tsz tb _) => some ⟨st.fr, (st.ob.set q .gone).set j (.tre (ar.setx xs i (a ++ ([.c (.on ys ss te tsz tb)] ++ c))) s e sz by_ none)⟩
        | _ => none
    | none => none
  | _ => none

theorem Inv.trePutBack {B : Nat} {E : Env} {ob : List Ob} {W : World} {j i off q : Nat} {xs s : List (List PS)} {row a m c : List PS} {e : TypeId} {sz by_ : Nat} {oq : Ob} {y : PV}
    (h : Inv B E ob W) (hj : ob[j]? = some (.tre xs s e sz by_ (some (i, off, q, row)))) (hq : ob[q]? = some oq) (hne : j ≠ q) (hp : pmid row off 1 = some (a, m, c))
    (hy : OwnV B E.μ W y (E.ov q) (bof ob E q)) (ha : Arrs ob [q]) :
    ∃ E', E.le E' ∧ E'.μ = E.μ ∧ Inv B E' ((ob.set q .gone).set j (.tre (xs.set i (a ++ ([.c y] ++ c))) s e sz by_ none)) W := by
  have hoj := h.obs j _ hj
  obtain ⟨l1, l2, l3, l4, l5⟩ := hoj.2.2.2 i off q row rfl
  have i1 := h.gone (k := q)
  have hj1 : (ob.set q .gone)[j]? = some (.tre xs s e sz by_ (some (i, off, q, row))) := by rw [List.getElem?_set_ne (Ne.symm hne)]; exact hj
  have hfree : Free E (ob.set q .gone) (bof ob E q) := fun g hg r orr hor hw => by
    obtain ⟨o, h1, h2⟩ := ha.wb (by simp) hg
    rw [List.getElem?_set] at hor
    split at hor
    · split at hor
      · cases hor; exact hw
      · cases hor
    · rename_i hqr; exact h.apart q r o orr g hqr h1 hor h2 hw
  obtain ⟨cur, hg, hfit, hB, E', hle, hmu, i2⟩ := i1.treStoreG (xs' := xs.set i (a ++ ([.c y] ++ c))) (q := i * sz + off) (n := 1) (ws := [E.ov q]) (F := bof ob E q) (fun _ => W) hj1 (by have := (List.getElem?_eq_some_iff.1 l3).1; omega) (by simp) rfl hfree
    (fun cur hg hfit => by
      refine ⟨grownBy_refl _ _, ?_⟩
      have hc : cur.toList[i * sz + off]? = some (E.ov q) := by
        have := l5
        rw [cell_of_row W _ _ _ e (0, 0) hg] at this
        simpa using this
      have : cur.toList.take (i * sz + off) ++ [E.ov q] ++ cur.toList.drop (i * sz + off + 1) = cur.toList := by
        have e1 := List.set_eq_take_append_cons_drop (l := cur.toList) (i := i * sz + off) (a := E.ov q)
        rw [if_pos (by have := (List.getElem?_eq_some_iff.1 hc).1; exact this)] at e1
        rw [set_same hc] at e1
        simpa using e1.symm
      rw [this]
      simpa using hg)
    (fun C G hX => by
      obtain ⟨A, f, D, w0, q1, q2, q3, _⟩ := hX.piece l3 hp
      exact q3.1)
    (fun W' hgr hρF C G hX => by
      obtain ⟨A, f, D, w0, q1, q2, q3, q4, q5, q6⟩ := hX.piece l3 hp
      have hy' := hy.keep (Mem.le_refl _) hgr (fun g hg e' => hρF (by cases e'; exact hg)) (fun g hg o => (hy.lt g hg).2 o)
      have := q6 [.c y] [E.ov q] (bof ob E q) rfl ⟨E.ov q, [], _, [], rfl, by simp, hy', rfl, rfl⟩
      rw [← List.append_assoc a]
      refine ⟨_, this, fun g hg => ?_, fun hnd hd => by rw [q1] at hnd hd; exact nodup_swap hnd (bof_nodup h q) hd⟩
      rw [q1]
      simp only [List.mem_append] at hg ⊢
      rcases hg with hg | hg | hg
      · exact .inl (.inl hg)
      · exact .inr hg
      · exact .inl (.inr (.inr hg)))
  exact ⟨E', hle, hmu, i2⟩

theorem putOne_spec {B : Nat} {W0 : World} {m0 : Mem} {E : Env} {st st' : St} {a : Act} {W : World} {j : Nat} (h : Sim B W0 m0 E st a W) (hx : putOne arS st j = some st') : ∃ E', Sim B W0 m0 E' st' a W := by
  unfold putOne at hx
  split at hx
  · rename_i xs s e sz by_ i off q row hj
    split at hx
    · rename_i ra m c hp
      split at hx
      · cases hx
      · rename_i hne
        have hne : j ≠ q := by simpa using hne
        split at hx
        · rename_i ys te tsz tb hq
          cases hx
          obtain ⟨h0, C, h1, h2, h3⟩ := h.inv.obs q _ hq
          have hone : (E.ov q).oneCell' = true := by
            obtain ⟨b, cap, e', _⟩ := ownsRow_len h1
            rw [e']; rfl
          obtain ⟨E', g1, g2, g3⟩ := h.inv.trePutBack (y := .ow ys te tsz tb) hj hq hne hp ⟨h0, by simp [bof, hq], fun g hg o => (h3 g (toList_some (by simpa [bof, hq] using hg))).2.1 o (.inl rfl), hone, C, h1, h2⟩
            (fun k hk => by simp at hk; subst hk; exact .inl ⟨_, _, _, _, hq⟩)
          exact ⟨E', g3, h.fr.mono g1, h.below, by rw [g2]; exact h.grew, by rw [g2]; exact h.had, h.defers⟩
        · rename_i ys ss te tsz tb t2 hq
          cases hx
          obtain ⟨E', g1, g2, g3⟩ := h.inv.trePutBack (y := .on ys ss te tsz tb) hj hq hne hp (by simp only [bof, hq]; exact (h.inv.obs q _ hq).1)
            (fun k hk => by simp at hk; subst hk; exact .inr ⟨_, _, _, _, _, _, hq⟩)
          exact ⟨E', g3, h.fr.mono g1, h.below, by rw [g2]; exact h.grew, by rw [g2]; exact h.had, h.defers⟩
        · cases hx
    · cases hx
  · cases hx

/-! ### Seen as such -/
/-- An own slice of frozen rows. -/
def treOb (st : St) (k : Nat) : Option St :=
  match st.ob[k]? with
  | some (.arr xs e sz by_ true) => some ⟨st.fr, st.ob.set k (.tre xs [] e sz by_ none)⟩
  | _ => none

def treOne (st : St) (s : Nat) : Option St :=
  match st.fr[s]? with
  | some (.s (.own k)) => treOb st k
  | _ => none

theorem Inv.arrTre {B : Nat} {E : Env} {ob : List Ob} {W : World} {k : Nat} {xs : List (List PS)} {e : TypeId} {sz by_ : Nat} (h : Inv B E ob W) (hk : ob[k]? = some (.arr xs e sz by_ true)) :
    ∃ E', E.le E' ∧ E'.μ = E.μ ∧ Inv B E' (ob.set k (.tre xs [] e sz by_ none)) W := by
  have hlt := (List.getElem?_eq_some_iff.1 hk).1
  obtain ⟨h0, C, h1, h2, h3⟩ := h.obs k _ hk
  have hle := E.le_bls k (E.ov k).ownBlock.toList
  obtain ⟨ad, cap, ev, hcap⟩ := ownsRow_len h1
  refine ⟨_, hle, rfl, ?_⟩
  refine h.change (k := k) (o' := .tre xs [] e sz by_ none) (row := none) idS (hle.but k) (by simp [Env.bls, h.n]) (fun q oq hq hoq => ⟨oq, ?_, by cases oq <;> rfl⟩) (by simp [hlt]) (idS_ok hle) (grownBy_refl _ _)
    (show OInv B _ W k (.tre xs [] e sz by_ none) from by
      refine ⟨?_, ?_, fun g hg => (h3 g hg).1, fun _ _ _ _ e => by cases e⟩
      · simp only [Env.bls, if_true]
        refine ⟨h0, ad, cap, C, [], [], [], ev, ?_, OwnX.of_rep h2, ⟨rfl, rfl⟩, by simp, fun g hg o => (h3 g (toList_some hg)).2.1 o (.inl rfl)⟩
        rw [List.append_nil, List.length_nil, Nat.add_zero, ← ev]; exact h1
      · simp only [Env.bls, if_true]; cases (E.ov k).ownBlock <;> simp)
    h.mu (fun b o w hm => .inl hm) (fun g e => by cases e) (fun g hg q oq hq hoq hw => ?_) (fun q _ hq => if_neg hq)
  · rw [List.getElem?_set_ne (Ne.symm hq)] at hoq; exact hoq
  · simp only [Wb, Env.bls, if_true] at hg
    exact h.apart k q _ oq g (Ne.symm hq) hk hoq (toList_some hg) hw

theorem treOb_spec {B : Nat} {W0 : World} {m0 : Mem} {E : Env} {st st' : St} {a : Act} {W : World} {k : Nat} (h : Sim B W0 m0 E st a W) (hx : treOb st k = some st') : ∃ E', Sim B W0 m0 E' st' a W := by
  unfold treOb at hx
  split at hx
  · rename_i xs e sz by_ hk
    cases hx
    obtain ⟨E', g1, g2, g3⟩ := h.inv.arrTre hk
    exact ⟨E', g3, h.fr.mono g1, h.below, by rw [g2]; exact h.grew, by rw [g2]; exact h.had, h.defers⟩
  · cases hx

theorem treOne_spec {B : Nat} {W0 : World} {m0 : Mem} {E : Env} {st st' : St} {a : Act} {W : World} {s : Nat} (h : Sim B W0 m0 E st a W) (hx : treOne st s = some st') : ∃ E', Sim B W0 m0 E' st' a W := by
  unfold treOne at hx
  split at hx
  · exact treOb_spec h hx
  · cases hx

/-- A nil slice becomes an own one of nothing. -/
theorem Inv.nilTre {B : Nat} {E : Env} {ob : List Ob} {W : World} {e : TypeId} {sz bytes : Nat} (h : Inv B E ob W) (hsz : 0 < sz) : Inv B ((E.push ((Value.slice none 0 0).ownBlock.getD 0) (.slice none 0 0)).bls E.n []) (ob ++ [.tre [] [] e sz bytes none]) W :=
  h.addTre (Nat.le_refl B) (fun g hg => by simp at hg) List.nodup_nil ⟨hsz, none, 0, [], [], [], [], rfl, World.ownsRow_nil _ _ _ _, ⟨rfl, rfl⟩, ⟨rfl, rfl⟩, rfl, by simp [Value.ownBlock]⟩

/-! ### Another word for what is handed out -/
def loosV : PV → PV → Prop
  | .v (.slice none 0 0), .on xs s _ sz _ => xs = [] ∧ s = [] ∧ 0 < sz
  | .ow xs e sz b, .on xs' s' e' sz' b' => xs = xs' ∧ s' = [] ∧ e = e' ∧ sz = sz' ∧ b = b'
  | x, y => x = y

def loosL : List PS → List PS → Prop
  | [], [] => True
  | .c x :: l, .c y :: m => loosV x y ∧ loosL l m
  | .r n ws :: l, .r n' ws' :: m => n = n' ∧ ws = ws' ∧ loosL l m
  | _, _ => False

def loosR : PR → PR → Prop
  | .s x, .s y => loosV x y
  | .ao a, .ao b => loosL a b
  | .a a, .a b => a = b
  | _, _ => False

def loosRs : List PR → List PR → Prop
  | [], [] => True
  | x :: l, y :: m => loosR x y ∧ loosRs l m
  | _, _ => False

section
variable {B : Nat} {m : Mem} {W : World}

theorem OwnV.loos {x y : PV} {w : Value} {F : List Nat} (h : loosV x y) (hv : OwnV B m W x w F) : OwnV B m W y w F := by
  unfold loosV at h
  split at h
  · obtain ⟨rfl, rfl, h0⟩ := h
    obtain ⟨rfl, hw⟩ := hv
    simp only [RepV] at hw
    obtain ⟨rfl, _⟩ := hw
    exact ⟨h0, none, 0, [], [], [], [], rfl, World.ownsRow_nil _ _ _ _, ⟨rfl, rfl⟩, ⟨rfl, rfl⟩, rfl, by simp [Value.ownBlock]⟩
  · obtain ⟨rfl, rfl, rfl, rfl, rfl⟩ := h
    obtain ⟨h0, h1, h2, _, C, h3, h4⟩ := hv
    obtain ⟨ad, cap, ev, hcap⟩ := ownsRow_len h3
    refine ⟨h0, ad, cap, C, [], [], [], ev, ?_, OwnX.of_rep h4, ⟨rfl, rfl⟩, by rw [h1]; simp, fun g hg o => h2 g (by rw [h1]; exact hg) o⟩
    rw [List.append_nil, List.length_nil, Nat.add_zero, ← ev]; exact h3
  · rw [← h]; exact hv

theorem OwnL.loos : ∀ {a b : List PS} {ws : List Value} {F : List Nat}, loosL a b → OwnL B m W a ws F → OwnL B m W b ws F
  | [], [], _, _, _, h => h
  | .c x :: l, .c y :: k, _, _, ⟨h1, h2⟩, ⟨w, ws', F1, F2, e, eF, hv, hr⟩ => ⟨w, ws', F1, F2, e, eF, hv.loos h1, OwnL.loos h2 hr⟩
  | .r n us :: l, .r n' us' :: k, _, _, ⟨h1, h2, h3⟩, ⟨hl, ho, ws', e, hr⟩ => by subst h1; subst h2; exact ⟨hl, ho, ws', e, OwnL.loos h3 hr⟩
  | [], _ :: _, _, _, h, _ => h.elim
  | .c _ :: _, [], _, _, h, _ => h.elim
  | .r _ _ :: _, [], _, _, h, _ => h.elim
  | .c _ :: _, .r _ _ :: _, _, _, h, _ => h.elim
  | .r _ _ :: _, .c _ :: _, _, _, h, _ => h.elim

theorem OwnR.loos {x y : PR} {w : Value} {F : List Nat} (h : loosR x y) (hv : OwnR B m W x w F) : OwnR B m W y w F := by
  unfold loosR at h
  split at h
  · exact OwnV.loos h hv
  · obtain ⟨ws, e, hL⟩ := hv; exact ⟨ws, e, hL.loos h⟩
  · subst h; exact hv
  · exact h.elim

theorem OwnRs.loos : ∀ {xs ys : List PR} {ws : List Value} {F : List Nat}, loosRs xs ys → OwnRs B m W xs ws F → OwnRs B m W ys ws F
  | [], [], _, _, _, h => h
  | _ :: _, _ :: _, _, _, ⟨h1, h2⟩, ⟨w, ws', F1, F2, e, eF, hv, hr⟩ => ⟨w, ws', F1, F2, e, eF, hv.loos h1, OwnRs.loos h2 hr⟩
  | [], _ :: _, _, _, h, _ => h.elim
  | _ :: _, [], _, _, h, _ => h.elim
end

def zxSV : SV → SV
  | .s .nil => .s (.p (.v (.slice none 0 0)))
  | .a row => .a (zxRow row)
  | x => x

theorem zxSV_spec {E : Env} {x : SV} {w : Value} (h : RepS E x w) : RepS E (zxSV x) w := by
  unfold zxSV
  split
  · exact ⟨h, rfl⟩
  · obtain ⟨ws, e, hr⟩ := h; exact ⟨ws, e, zxRow_spec hr⟩
  · exact h

def zxAll : List SV → List SV
  | [] => []
  | x :: l => zxSV x :: zxAll l

theorem zxAll_spec {E : Env} : ∀ {xs : List SV} {ws : List Value}, RepF E xs ws → RepF E (zxAll xs) ws
  | [], _, h => h
  | _ :: _, _, ⟨w, ws', e, hv, hr⟩ => ⟨w, ws', e, zxSV_spec hv, zxAll_spec hr⟩

end Go.Eng
