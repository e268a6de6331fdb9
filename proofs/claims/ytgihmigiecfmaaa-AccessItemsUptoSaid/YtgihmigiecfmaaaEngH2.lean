/-
  Slices that grow, slices that are made, copies: the builtins.
-/
import Derived.Test.YtgihmigiecfmaaaEngH
namespace Go.Eng
open Go Go.RowKit

def sweepO (k : Nat) : List Ob → List Ob
  | [] => []
  | o :: l => o.map (swS k) :: sweepO k l

theorem sweepO_length (k : Nat) : ∀ l : List Ob, (sweepO k l).length = l.length
  | [] => rfl
  | _ :: l => by simp [sweepO, sweepO_length k l]

theorem sweepO_get (k : Nat) : ∀ (l : List Ob) (j : Nat), (sweepO k l)[j]? = (l[j]?).map (·.map (swS k))
  | [], j => by simp [sweepO]
  | o :: l, 0 => by simp [sweepO]
  | o :: l, j + 1 => by simp [sweepO, sweepO_get k l j]

theorem Inv.grow {P : Program} {B : Nat} {E : Env} {ob : List Ob} {W : World} {k : Nat} {xs ys : List (List PS)} {t ty e : TypeId} {sz bytes : Nat} {wr : Bool} {i : TypeInfo} {z : Value} {a : Addr} {c : Nat} {news : List Value}
    (h : Inv B E ob W) (hk : ob[k]? = some (.arr xs e sz bytes wr)) (ht : P.underlying t = some (.slice e)) (hi : P.info? e = some i) (hz : i.zero = some z) (hzs : z.cells.size = i.size) (hisz : i.size = sz)
    (hys : RepX E.μ ys sz news) (hm : 0 < ys.length) (hnews : ∀ j u, news[j]? = some u → W.cell? (a.add j) = some u)
    (h63 : xs.length + ys.length ≤ maxLen) (hbytes : (xs.length + ys.length) * i.bytes ≤ 140737488355328) :
    ∃ v' W' E', (Builtin.append_ #[t, t] ty #[E.ov k, .slice (some a) ys.length c]).run P W = .ok v' W' ∧ E.leBut k E' ∧ E'.n = E.n ∧ Inv B E' ((sweepO k ob).set k (.arr (xs ++ ys) e sz bytes wr)) W' ∧
      (∀ b o w, E'.μ b o = some w → E.μ b o = some w ∨ B ≤ b) ∧ E'.ov k = v' ∧ v'.oneCell' = true ∧ Below B W W' := by
  subst hisz
  have hlt := (List.getElem?_eq_some_iff.1 hk).1
  obtain ⟨h0, C, h1, h2, h3⟩ := h.obs k _ hk
  obtain ⟨v', W', g', hr, ho, hg, hb', hor, hkeep⟩ := run_append_own' (P := P) W B t ty e i z ht hi hz hzs h0 (E.ov k) xs.length C h1 a ys.length c news hys.length hm hnews hys.all_oneCell h63 hbytes h.size
  have hapart : ∀ g, (E.ov k).ownBlock = some g → ∀ j oj, j ≠ k → ob[j]? = some oj → ¬ Wb E j oj g := fun g hgb j oj hj hoj hw => h.apart k j _ oj g (Ne.symm hj) hk hoj hgb hw
  have hapart' : ∀ j oj, j ≠ k → ob[j]? = some oj → ¬ Wb E j oj g' := fun j oj hj hoj hw => by
    rcases hor with hor | hor
    · exact hapart g' hor j oj hj hoj hw
    · have := ((h.obs j oj hoj).wlt hw).2; omega
  have hCl := h2.length
  have hold : ∀ o, (wr = true ∨ C.length ≤ o) → E.μ g' o = none := fun o hwo => by
    rcases hor with hor | hor
    · exact (h3 g' hor).2.1 o hwo
    · exact mu_lt h hor o
  have hBg' : B ≤ g' := (ho.lt g' hb').1
  have hcell' : ∀ (o : Nat) (w : Value), (C ++ news)[o]? = some w → W'.cell? ⟨g', o, none⟩ = some w := fun o w hw => by
    have := ho.cells hb' o w hw
    rw [Addr.add_mid, Nat.zero_add] at this
    exact this
  have hmu0 : ∀ b o w, E.μ b o = some w → W'.cell? ⟨b, o, none⟩ = some w := fun b o w hm => by
    have hc := h.mu b o w hm
    by_cases hbk : (E.ov k).ownBlock = some b
    · refine hkeep b hbk o w ?_ hc
      rcases Nat.lt_or_ge o C.length with hlt' | hge
      · exact hlt'
      · rw [(h3 b hbk).2.1 o (.inr hge)] at hm; cases hm
    · exact hg.cell hc (fun e => hbk e.symm)
  have hbel : Below B W W' := (Below.refl B W).grown hg h.size fun g hgk => (h1.lt g hgk).1
  have hv1 : v'.oneCell' = true := by
    obtain ⟨b, cap, e', _⟩ := ownsRow_len ho
    rw [e']; rfl
  have build : ∀ m : Mem, Mem.le E.μ m → (∀ b o w, m b o = some w → E.μ b o = some w ∨ (b = g' ∧ (C ++ news)[o]? = some w)) →
      (∀ o, wr = true ∨ (C ++ news).length ≤ o → m g' o = none) → (wr = false → ∀ (j : Nat) (w : Value), (C ++ news)[j]? = some w → m g' j = some w) →
      ∃ E', E.leBut k E' ∧ E'.n = E.n ∧ Inv B E' ((sweepO k ob).set k (.arr (xs ++ ys) e i.size bytes wr)) W' ∧ (∀ b o w, E'.μ b o = some w → E.μ b o = some w ∨ B ≤ b) ∧ E'.ov k = v' := fun m hle hspec hn1 hn2 => by
    have hE : E.leBut k { n := E.n, ρ := fun j => if j = k then g' else E.ρ j, ov := fun j => if j = k then v' else E.ov j, bl := E.bl, μ := m, gok := E.gok.mono hle } :=
      ⟨Nat.le_refl _, fun j _ hj => by simp [hj], fun j _ hj => by simp [hj], hle⟩
    refine ⟨_, hE, rfl, ?_, fun b o w hm => (hspec b o w hm).imp id (fun hb => by rw [hb.1]; exact hBg'), by simp⟩
    refine h.change (k := k) (o' := .arr (xs ++ ys) e i.size bytes wr) (row := (E.ov k).ownBlock) (swS k) hE (by simp [sweepO_length, h.n]) (fun j oj' hj hoj => ?_) (by simp [sweepO_length, hlt]) (swS_ok hE) hg
      ?_ (fun b o w hm => ?_) (fun b o w hm => ?_) (fun g e' j oj hj hoj => hapart g e' j oj hj hoj) (fun g hgk j oj hj hoj => ?_)
    · rw [List.getElem?_set_ne (Ne.symm hj), sweepO_get, Option.map_eq_some_iff] at hoj
      obtain ⟨oj, h5, h6⟩ := hoj
      exact ⟨oj, h5, h6.symm⟩
    · refine ⟨h0, C ++ news, ?_, (h2.mono hle).append (hys.mono hle), fun g hgk => ?_⟩
      · simp only [if_true, List.length_append]; exact ho
      · simp only [if_true] at hgk ⊢
        rw [hb'] at hgk
        cases hgk
        exact ⟨rfl, hn1, hn2⟩
    · rcases hspec b o w hm with h5 | ⟨rfl, h5⟩
      · exact hmu0 b o w h5
      · exact hcell' o w h5
    · rcases hspec b o w hm with h5 | ⟨rfl, h5⟩
      · exact .inl h5
      · exact .inr hapart'
    · simp only [Wb, if_true] at hgk
      rw [hb'] at hgk
      cases hgk
      exact hapart' j oj hj hoj
  have done : ∃ E', E.leBut k E' ∧ E'.n = E.n ∧ Inv B E' ((sweepO k ob).set k (.arr (xs ++ ys) e i.size bytes wr)) W' ∧ (∀ b o w, E'.μ b o = some w → E.μ b o = some w ∨ B ≤ b) ∧ E'.ov k = v' := by
    cases wr with
    | true => exact build E.μ (Mem.le_refl _) (fun b o w hm => .inl hm) (fun o _ => hold o (.inl rfl)) (fun hf => by cases hf)
    | false =>
      have hfr : ∀ (j : Nat) (u : Value), E.μ g' j = some u → (C ++ news)[j]? = some u := fun j u hu => by
        have := hmu0 g' j u hu
        rcases Nat.lt_or_ge j C.length with hlt' | hge
        · have hj : (C ++ news)[j]? = some ((C ++ news)[j]'(by simp; omega)) := List.getElem?_eq_getElem _
          rw [hcell' j _ hj] at this
          rw [hj]; exact this
        · rw [hold j (.inr hge)] at hu; cases hu
      refine build (E.μ.plus g' (C ++ news)) (Mem.le_plus _ _ _) (fun b o w hm => ?_) (fun o ho' => ?_) (fun _ j w hj => ?_)
      · rcases Mem.plus_spec hm with h5 | ⟨h5, _, h6⟩
        · exact .inl h5
        · exact .inr ⟨h5, h6⟩
      · have hge : (C ++ news).length ≤ o := by
          rcases ho' with h5 | h5
          · cases h5
          · exact h5
        simp only [Mem.plus, if_true]
        rw [hold o (.inr (by simp at hge; omega))]
        simp only
        exact List.getElem?_eq_none hge
      · simp only [Mem.plus, if_true]
        cases hm : E.μ g' j with
        | none => exact hj
        | some u => rw [← hj]; exact (hfr j u hm).symm
  obtain ⟨E', e1, e2, e3, e4, e5⟩ := done
  exact ⟨v', W', E', hr, e1, e2, e3, e4, e5, hv1, hbel⟩

/-- A nil slice becomes an own one, of nothing. -/
theorem Inv.nilOwn {B : Nat} {E : Env} {ob : List Ob} {W : World} {e : TypeId} {sz bytes : Nat} (h : Inv B E ob W) (hsz : 0 < sz) : Inv B (E.push 0 (.slice none 0 0)) (ob ++ [.arr [] e sz bytes true]) W := by
  have hv : (E.push 0 (.slice none 0 0)).ov E.n = .slice none 0 0 := by simp [Env.push]
  refine h.add ⟨rfl, rfl, rfl, Nat.le_refl _, fun _ _ _ => rfl⟩ ⟨hsz, [], ?_, rfl, fun g hg => ?_⟩ (fun g hg => ?_)
  · rw [hv]; exact World.ownsRow_nil _ _ _ _
  · rw [hv] at hg; cases hg
  · simp only [Wb, hv] at hg; cases hg

/-! ### append -/
def appOwn (ar : Ar) (st : St) (e : TypeId) (j : Nat) (ys : List (List PS)) (k : SV → St → Prop) : Prop :=
  match st.ob[j]? with
  | some (.arr xs e' sz by_ wr) => if e' = e ∧ sz = (tt e).size ∧ 0 < (tt e).bytes then
      (True → (xs.length + ys.length) * (tt e).bytes ≤ 140737488355328 ∧ ∀ y ∈ ys, rlen y = (tt e).size) ∧ k (.s (.own j)) ⟨sweepF j st.fr, (sweepO j st.ob).set j (.arr (ar.app xs ys) e sz by_ wr)⟩
    else False
  | _ => False

def appendP (ar : Ar) (st : St) (t : TypeId) (s x : SV) (k : SV → St → Prop) : Prop :=
  match (tt t).d with
  | .slice e => if (tt e).d.ok = true ∧ 0 < (tt e).size then
      match x.use ar st.ob with
      | some (.s (.sl ys _), ob') => match s with
        | .s (.own j) => appOwn ar ⟨st.fr, ob'⟩ e j ys k
        | .s .nil => appOwn ar ⟨st.fr, ob' ++ [.arr [] e (tt e).size (tt e).bytes true]⟩ e ob'.length ys k
        | _ => False
      | _ => False
    else False
  | _ => False

theorem appOwn_spec {P : Program} (hT : TTok P) {B : Nat} {W0 : World} {m0 : Mem} {E : Env} {st : St} {a : Act} {W : World} {t e ty : TypeId} {j : Nat} {ys s : List (List PS)} {w : Value} {k : SV → St → Prop} {R : Value → World → Prop}
    (h : Sim B W0 m0 E st a W) (ht : P.underlying t = some (.slice e)) (hok : (tt e).d.ok = true) (hsz : 0 < (tt e).size) (hy : RepV E.μ (.sl ys s) w) (hj : j < E.n)
    (hk : appOwn arS st e j ys k) (hR : ∀ sv st' E' W' v, k sv st' → Sim B W0 m0 E' st' a W' → RepS E' sv v → R v W') :
    ∃ v W', (Builtin.append_ #[t, t] ty #[E.ov j, w]).run P W = .ok v W' ∧ R v W' := by
  unfold appOwn at hk
  split at hk
  · rename_i xs e' sz by_ wr hob
    split at hk
    · rename_i hc
      obtain ⟨rfl, rfl, hby⟩ := hc
      obtain ⟨hbound, hk⟩ := hk
      obtain ⟨hbound, hrl⟩ := hbound trivial
      have hlen : xs.length + ys.length ≤ 140737488355328 := Nat.le_trans (Nat.le_mul_of_pos_right _ hby) hbound
      obtain ⟨ti, z, hti, hs1, hs2, hz, _, hzs⟩ := (hT.of_ok hok).info
      rw [RepV] at hy
      obtain ⟨ad, cap, ew, hcap, hel⟩ := hy
      obtain ⟨_, C, h1, h2, h3⟩ := h.inv.obs j _ hob
      have hlt := (List.getElem?_eq_some_iff.1 hob).1
      by_cases h0 : ys.length = 0
      · -- nothing is appended: nothing turns
        obtain ⟨b, cap', ev, hle⟩ := ownsRow_len h1
        have e0 : ys = [] := List.eq_nil_of_length_eq_zero h0
        subst e0
        refine ⟨E.ov j, W, ?_, ?_⟩
        · rw [ew, ev]
          exact run_append_zero ht hti b ad xs.length cap' cap hle
        · have hE : E.leBut j E := (Env.le_refl E).but j
          refine hR _ _ E W _ hk ⟨?_, h.fr.sweep hE, h.below, h.grew, h.had, h.defers⟩ ⟨hj, rfl, by rw [ev]; rfl⟩
          refine h.inv.change (k := j) (o' := .arr (arS.app xs []) e' (tt e').size by_ wr) (row := none) (swS j) hE (by simp [sweepO_length, h.inv.n]) (fun i oi hij hoi => ?_) (by simp [sweepO_length, hlt]) (swS_ok hE) ⟨rfl, rfl, rfl, Nat.le_refl _, fun _ _ _ => rfl⟩
            ?_ h.inv.mu (fun b o w hm => .inl hm) (fun g e => by cases e) (fun g hg i oi hij hoi hw => h.inv.apart j i _ oi g (Ne.symm hij) hob hoi hg hw)
          · rw [List.getElem?_set_ne (Ne.symm hij), sweepO_get, Option.map_eq_some_iff] at hoi
            obtain ⟨oj, h5, h6⟩ := hoi
            exact ⟨oj, h5, h6.symm⟩
          · have : arS.app xs [] = xs := by simp [arS]
            rw [this]
            exact h.inv.obs j _ hob
      · rcases hel with ⟨e0, _⟩ | ⟨b, o, sz', rfl, hE, _⟩
        · rw [e0] at h0; simp at h0
        · have hszz : sz' = (tt e').size := by
            have hx : ys[0]? = some (ys[0]'(by omega)) := List.getElem?_eq_getElem _
            rw [← (hE.get 0 _ hx).1]
            exact hrl _ (List.mem_of_getElem? hx)
          subst hszz
          obtain ⟨news, hX, hnews⟩ := hE.toX
          obtain ⟨v', W', E', hr, g1, g2, g3, g4, g5, g6, g7⟩ := h.inv.grow (P := P) (t := t) (ty := ty) (a := ⟨b, o, none⟩) (c := cap) hob ht hti hz (by omega) hs1 hX (by omega)
            (fun q u hq => by rw [Addr.add_mid]; exact h.inv.mu _ _ _ (hnews q u hq)) (by simp only [maxLen]; omega) (by rw [hs2]; exact hbound)
          refine ⟨v', W', by rw [ew]; exact hr, hR _ _ E' W' v' hk ⟨g3, h.fr.sweep g1, h.below.trans g7, fun b o w hm => (g4 b o w hm).elim (h.grew b o w) .inr, Mem.le_trans h.had g1.μ, h.defers⟩ ⟨by rw [g2]; exact hj, g5.symm, g6⟩⟩
    · exact hk.elim
  · exact hk.elim

theorem appendP_spec {P : Program} (hT : TTok P) {B : Nat} {W0 : World} {m0 : Mem} {E : Env} {st : St} {a : Act} {W : World} {o : Oper} {t : TypeId} {s x : Operand} {k : SV → St → Prop} {next : Act → World → Prop} {Q : Exit → Act → World → Prop}
    (h : Sim B W0 m0 E st a W) (ho : o.op = .call { callee := .builtin .append, args := #[s, x], argTypes := #[t, t] }) (hk : appendP arS st t (st.ev 0 s) (st.ev 0 x) k) (hn : Nexts false B W0 m0 a W o next k) : o.wp P a W next Q := by
  have hs := RepS.ev h.fr 0 s
  have hx := RepS.ev h.fr 0 x
  generalize st.ev 0 s = ss at *
  generalize st.ev 0 x = sx at *
  have hn' : ∀ sv st' E' W' v, k sv st' → Sim B W0 m0 E' st' a W' → RepS E' sv v → next (a.put o.dst v) W' := fun sv st' E' W' v x y z => hn sv st' E' W' v x y z (fun e => by cases e)
  have fin : ∀ v W', (Builtin.append_ #[t, t] o.type #[a.eval s, a.eval x]).run P W = .ok v W' → next (a.put o.dst v) W' → o.wp P a W next Q := fun v W' hr hnx => by
    refine wp_value (w' := W') (v := v) ?_ hnx
    unfold execOp
    simp only [ho]
    simp [resolve, invoke, builtin, hr]
  unfold appendP at hk
  split at hk
  · rename_i e hd
    obtain ⟨d, hd1, hd2⟩ := (hT.of_ok (t := t) (by rw [hd]; rfl)).desc
    rw [hd] at hd2
    cases d <;> try exact False.elim hd2
    cases hd2
    split at hk
    · rename_i hc
      split at hk
      · rename_i ys sp ob' hu
        obtain ⟨E1, e1, i1, r1⟩ := SV.use_spec h.inv hx hu
        have h1 := h.ext e1 i1
        have hs1 := hs.mono e1.le
        split at hk
        · rename_i j
          obtain ⟨v, W', hr, hR⟩ := appOwn_spec (P := P) (ty := o.type) hT h1 hd1 hc.1 hc.2 r1 hs1.1 hk hn'
          exact fin v W' (by rw [hs1.2.1]; exact hr) hR
        · have es : a.eval s = .slice none 0 0 := hs
          have hn1 : ob'.length = E1.n := i1.n.symm
          have i2 := i1.nilOwn (e := e) (sz := (tt e).size) (bytes := (tt e).bytes) hc.2
          have hle := E1.le_push 0 (.slice none 0 0)
          have h2 : Sim B W0 m0 (E1.push 0 (.slice none 0 0)) ⟨st.fr, ob' ++ [.arr [] e (tt e).size (tt e).bytes true]⟩ a W := ⟨i2, h1.fr.mono hle, h1.below, h1.grew, h1.had, h1.defers⟩
          rw [hn1] at hk
          obtain ⟨v, W', hr, hR⟩ := appOwn_spec (P := P) (ty := o.type) hT h2 hd1 hc.1 hc.2 (RepV.mono hle.μ _ _ r1) (Nat.lt_succ_self _) hk hn'
          refine fin v W' ?_ hR
          rw [es]
          have ev : (E1.push 0 (.slice none 0 0)).ov E1.n = .slice none 0 0 := by simp [Env.push]
          rw [ev] at hr
          exact hr
        · exact hk.elim
      · exact hk.elim
    · exact hk.elim
  · exact hk.elim

end Go.Eng
