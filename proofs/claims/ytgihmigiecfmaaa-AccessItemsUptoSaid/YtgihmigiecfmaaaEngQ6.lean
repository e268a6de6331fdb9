/-
  Own slices whose rows hold own slices grow, are cut, are laid over; what was taken out is put back.
-/
import Derived.Test.YtgihmigiecfmaaaEngQ5
namespace Go.Eng
open Go Go.RowKit
set_option linter.unusedVariables false

/-- Its first rows as an own slice, and the blocks that they own. -/
theorem OInv.treOwn {B : Nat} {E : Env} {W : World} {k : Nat} {xs s : List (List PS)} {e : TypeId} {sz by_ : Nat} {t : Option (Nat × Nat × Nat × List PS)} (h : OInv B E W k (.tre xs s e sz by_ t)) :
    ∃ C1 G1, W.ownsRow B e sz (E.ov k) xs.length C1 ∧ OwnX B E.μ W xs sz C1 G1 ∧ (∀ g ∈ G1, g ∈ E.bl k) ∧ G1.Nodup ∧ 0 < sz ∧ (∀ g, (E.ov k).ownBlock = some g → g = E.ρ k ∧ g ∈ E.bl k ∧ g ∉ G1) := by
  rcases h.treBlk with ⟨hv, hx, hs, hb, h0⟩ | ⟨cap, cur, C1, C2, G1, G2, hv, hg, hcap, hcm, hcs, hB, htk, hX1, hX2, hbl, h0, hmu⟩
  · subst hx
    exact ⟨[], [], by rw [hv]; exact World.ownsRow_nil _ _ _ _, ⟨rfl, rfl⟩, by simp, List.nodup_nil, h0, fun g hg => by rw [hv] at hg; cases hg⟩
  · have hnd : (E.bl k).Nodup := h.2.1
    rw [hbl, List.nodup_cons, List.nodup_append] at hnd
    refine ⟨C1, G1, ⟨hX1.length, .inr ⟨E.ρ k, cap, cur, hv, hB, hg, by omega, hcm, hcs, ?_⟩⟩, hX1, fun g hg => by rw [hbl]; simp [hg], hnd.2.1, h0, fun g hg => ?_⟩
    · have : cur.toList.take (xs.length * sz) = (cur.toList.take ((xs.length + s.length) * sz)).take (xs.length * sz) := by
        rw [List.take_take, Nat.min_eq_left (Nat.mul_le_mul_right _ (by omega))]
      rw [this, htk, ← hX1.length, List.take_left]
    · rw [hv] at hg
      cases hg
      exact ⟨rfl, by rw [hbl]; simp, fun hm => hnd.1 (by simp [hm])⟩

theorem Inv.treGrow {P : Program} {B : Nat} {E : Env} {ob : List Ob} {W : World} {k : Nat} {xs s ys : List (List PS)} {t ty e : TypeId} {sz bytes : Nat} {lt : Option (Nat × Nat × Nat × List PS)} {i : TypeInfo} {z : Value} {a : Addr} {c : Nat} {news : List Value} {G : List Nat}
    (h : Inv B E ob W) (hk : ob[k]? = some (.tre xs s e sz bytes lt)) (ht : P.underlying t = some (.slice e)) (hi : P.info? e = some i) (hz : i.zero = some z) (hzs : z.cells.size = i.size) (hisz : i.size = sz)
    (hys : OwnX B E.μ W ys sz news G) (hG : G.Nodup) (hGf : Free E ob G) (hm : 0 < ys.length) (hnews : ∀ j u, news[j]? = some u → W.cell? (a.add j) = some u) (hones : ∀ u ∈ news, u.oneCell' = true)
    (h63 : xs.length + ys.length ≤ maxLen) (hbytes : (xs.length + ys.length) * i.bytes ≤ 140737488355328) :
    ∃ v' W' E', (Builtin.append_ #[t, t] ty #[E.ov k, .slice (some a) ys.length c]).run P W = .ok v' W' ∧ E.leBut k E' ∧ E'.n = E.n ∧ Inv B E' ((sweepOA k xs ob).set k (.tre (xs ++ ys) [] e sz bytes none)) W' ∧
      (∃ ad cap, E.ov k = .slice ad xs.length cap) ∧ E'.μ = E.μ ∧ E'.ov k = v' ∧ v'.oneCell' = true ∧ Below B W W' := by
  subst hisz
  have hoj := h.obs k _ hk
  obtain ⟨C1, G1, h1, hX1, hsub, hnd1, h0, hown⟩ := hoj.treOwn
  obtain ⟨v', W', g', hr, ho, hg, hb', hor, hkeep⟩ := run_append_own' (P := P) W B t ty e i z ht hi hz hzs h0 (E.ov k) xs.length C1 h1 a ys.length c news hys.length hm hnews hones h63 hbytes h.size
  have hGk : ∀ g ∈ G, g ∉ E.bl k := fun g hg hb => hGf g hg k _ hk hb
  have hX1' := hX1.keep (Mem.le_refl _) hg (fun g hg' e' => (hown g e'.symm).2.2 hg') (fun g hg' o => (hX1.lt g hg').2 o)
  have hys' := hys.keep (Mem.le_refl _) hg (fun g hg' e' => hGk g hg' (hown g e'.symm).2.1) (fun g hg' o => (hys.lt g hg').2 o)
  have hmu' : ∀ o, E.μ g' o = none := fun o => by
    rcases hor with hor | hor
    · exact hoj.treMu g' (hown g' hor).2.1 o
    · exact mu_lt h hor o
  have hg1 : g' ∉ G1 := fun hm => by
    rcases hor with hor | hor
    · exact (hown g' hor).2.2 hm
    · have := (hX1.lt g' hm).1.2; omega
  have hg2 : g' ∉ G := fun hm => by
    rcases hor with hor | hor
    · exact hGk g' hm (hown g' hor).2.1
    · have := (hys.lt g' hm).1.2; omega
  obtain ⟨ad, cap, ev, hcap⟩ := ownsRow_len ho
  have hbel : Below B W W' := (Below.refl B W).grown hg h.size fun g hgk => (h1.lt g hgk).1
  have hOw : OwnV B E.μ W' (.on (xs ++ ys) [] e i.size bytes) v' (g' :: ((G1 ++ G) ++ [])) := by
    refine ⟨h0, ad, cap, C1 ++ news, [], G1 ++ G, [], by rw [ev, List.length_append], ?_, hX1'.append hys', ⟨rfl, rfl⟩, by rw [hb']; rfl, fun g hg' o => ?_⟩
    · rw [List.append_nil, List.length_nil, Nat.add_zero, List.length_append, ← ev]; exact ho
    · rw [hb'] at hg'
      simp at hg'
      rw [hg']; exact hmu' o
  obtain ⟨ad0, cap0, ev0, _⟩ := ownsRow_len h1
  obtain ⟨E', g1, g2, g3, g4, g5⟩ := h.treTurnG (swSA k xs) (fun _ hh => swSA_ok hh ⟨ad0, cap0, ev0⟩) (sweepOA_length k xs ob) (sweepOA_get k xs ob) hk hg (fun g e' => (hown g e').2.1) hOw (by
    rw [List.append_nil, List.nodup_cons, List.nodup_append]
    refine ⟨fun hm => ?_, hnd1, hG, fun x hx y hy e' => ?_⟩
    · rcases List.mem_append.1 hm with hm | hm
      · exact hg1 hm
      · exact hg2 hm
    · subst e'; exact hGk x hy (hsub x hx)) (fun g hg' => by
    simp only [List.append_nil, List.mem_cons, List.mem_append] at hg'
    rcases hg' with rfl | hg' | hg'
    · rcases hor with hor | hor
      · exact .inl (hown g hor).2.1
      · exact .inr fun j oj hj hoj hw => by
          have := ((h.obs j oj hoj).wlt hw).2; omega
    · exact .inl (hsub g hg')
    · exact .inr fun j oj hj hoj => hGf g hg' j oj hoj)
  exact ⟨v', W', E', hr, g1, g2, g5, ⟨ad0, cap0, ev0⟩, g3, g4, by rw [ev]; rfl, hbel⟩

/-- Rows cut out of one row, each of sz cells. -/
def pchunks (sz : Nat) : Nat → List PS → Option (List (List PS))
  | 0, [] => some []
  | n + 1, row => match pcut row sz with
    | some (a, b) => match pchunks sz n b with | some l => some (a :: l) | none => none
    | none => none
  | 0, _ :: _ => none

theorem pcut_rlen : ∀ {row a b : List PS} {n : Nat}, pcut row n = some (a, b) → rlen a = n
  | row, a, b, 0, h => by
    have e : a = [] := by cases row <;> simp [pcut] at h <;> simp [h]
    rw [e]; rfl
  | [], _, _, n + 1, h => by simp [pcut] at h
  | .c x :: l, _, _, n + 1, h => by
    simp only [pcut] at h
    split at h
    · rename_i a' b' hc; cases h; simp only [rlen, PS.len, pcut_rlen hc]; omega
    · cases h
  | .r k us :: l, _, _, n + 1, h => by
    simp only [pcut] at h
    split at h
    · rename_i hle
      split at h
      · rename_i a' b' hc; cases h; simp only [rlen, PS.len, pcut_rlen hc]; omega
      · cases h
    · cases h

theorem OwnL.pchunks {B : Nat} {m : Mem} {W : World} {sz : Nat} : ∀ {n : Nat} {row : List PS} {ys : List (List PS)} {ws : List Value} {F : List Nat}, OwnL B m W row ws F → Eng.pchunks sz n row = some ys → OwnX B m W ys sz ws F ∧ ys.length = n
  | 0, [], _, _, _, h, hc => by cases hc; exact ⟨h, rfl⟩
  | 0, _ :: _, _, _, _, h, hc => by cases hc
  | n + 1, row, _, _, _, h, hc => by
    simp only [Eng.pchunks] at hc
    split at hc
    · rename_i a b hcut
      split at hc
      · rename_i l hl
        cases hc
        obtain ⟨w1, w2, F1, F2, e1, e2, e3, e4, e5⟩ := h.cut hcut
        obtain ⟨r1, r2⟩ := OwnL.pchunks e5 hl
        exact ⟨⟨w1, w2, F1, F2, e1, e2, pcut_rlen hcut, e4, r1⟩, by simp [r2]⟩
      · cases hc
    · cases hc

def tApp (ar : Ar) (st : St) (e : TypeId) (j : Nat) (ys : List (List PS)) (k : SV → St → Prop) : Prop :=
  match st.ob[j]? with
  | some (.tre xs _ e' sz by_ _) => if e' = e ∧ sz = (tt e).size ∧ 0 < (tt e).bytes then
      (True → 0 < ys.length ∧ (xs.length + ys.length) * (tt e).bytes ≤ 140737488355328 ∧ ∀ y ∈ ys, rlen y = (tt e).size) ∧
        k (.s (.own j)) ⟨sweepFA j xs st.fr, (sweepOA j xs st.ob).set j (.tre (ar.app xs ys) [] e sz by_ none)⟩
    else False
  | _ => False

def tAppP (ar : Ar) (st : St) (t : TypeId) (s x : SV) (k : SV → St → Prop) : Prop :=
  match (tt t).d with
  | .slice e => if (tt e).d.ok = true ∧ 0 < (tt e).size then
      match s with
      | .s (.own j) => match x.use ar st.ob with
        | some (.s (.sl ys _), ob') => tApp ar ⟨st.fr, ob'⟩ e j ys k
        | _ => match x with
          | .s (.bsl b 0 n sz) => match st.ob[b]? with
            | some (.box row) => match moveRow ar st.ob row with
              | some (ps, ob') => match pchunks sz n ps with
                | some ys => tApp ar ⟨st.fr, ob'⟩ e j ys k
                | none => False
              | none => False
            | _ => False
          | .s (.own q) => match st.ob[q]? with
            | some (.tre ys _ _ _ _ _) => tApp ar ⟨st.fr, st.ob.set q .gone⟩ e j ys k
            | _ => False
          | _ => False
      | _ => False
    else False
  | _ => False

theorem tApp_spec {P : Program} (hT : TTok P) {B : Nat} {W0 : World} {m0 : Mem} {E : Env} {st : St} {a : Act} {W : World} {o : Oper} {t e : TypeId} {s x : Operand} {j : Nat} {ys : List (List PS)} {sz : Nat} {k : SV → St → Prop} {next : Act → World → Prop} {Q : Exit → Act → World → Prop}
    {A : Addr} {cap : Nat} {news : List Value} {G : List Nat} {st0 : St} {E0 : Env}
    (h : Sim B W0 m0 E st a W) (ho : o.op = .call { callee := .builtin .append, args := #[s, x], argTypes := #[t, t] }) (hd1 : P.underlying t = some (.slice e)) (hok : (tt e).d.ok = true) (hsv : RepK E (.own j) (a.eval s))
    (hxv : a.eval x = .slice (some A) ys.length cap) (hys : OwnX B E.μ W ys sz news G) (hG : G.Nodup) (hGf : Free E st.ob G) (hnews : ∀ q u, news[q]? = some u → W.cell? (A.add q) = some u) (hones : ∀ u ∈ news, u.oneCell' = true)
    (hk : tApp arS st e j ys k) (hn : Nexts false B W0 m0 a W o next k) : o.wp P a W next Q := by
  unfold tApp at hk
  split at hk
  · rename_i xs sp e' sz1 by_ lt hj
    split at hk
    · rename_i hc2
      obtain ⟨rfl, rfl, hby⟩ := hc2
      obtain ⟨hside, hk⟩ := hk
      obtain ⟨hpos, hbound, hrl⟩ := hside trivial
      have hlen : xs.length + ys.length ≤ 140737488355328 := Nat.le_trans (Nat.le_mul_of_pos_right _ hby) hbound
      obtain ⟨ti, z, hti, hz1, hz2, hz, _, hzs⟩ := (hT.of_ok hok).info
      have hszz : sz = (tt e').size := by
        have hx0 : ys[0]? = some (ys[0]'(by omega)) := List.getElem?_eq_getElem _
        obtain ⟨_, _, _, _, _, h2, _⟩ := hys.at hx0
        rw [← h2]
        exact hrl _ (List.mem_of_getElem? hx0)
      subst hszz
      obtain ⟨v', W', E', hr, g1, g2, g3, g8, g4, g5, g6, g7⟩ := h.inv.treGrow (P := P) (t := t) (ty := o.type) (a := A) (c := cap) hj hd1 hti hz (by omega) hz1 hys hG hGf hpos hnews hones (by simp only [maxLen]; omega) (by rw [hz2]; exact hbound)
      refine wp_value (w' := W') (v := v') ?_ (hn _ _ E' _ _ hk ⟨g3, h.fr.sweepA g1 g8, h.below.trans g7, by rw [g4]; exact h.grew, by rw [g4]; exact h.had, h.defers⟩ ⟨by rw [g2]; exact hsv.1, g5.symm, g6⟩ (fun e => by cases e))
      rw [← hsv.2.1, ← hxv] at hr
      unfold execOp
      simp only [ho]
      simp [resolve, invoke, builtin, hr]
    · exact hk.elim
  · exact hk.elim

theorem Sim.gone {B : Nat} {W0 : World} {m0 : Mem} {E : Env} {st : St} {a : Act} {W : World} {q : Nat} (h : Sim B W0 m0 E st a W) : Sim B W0 m0 E ⟨st.fr, st.ob.set q .gone⟩ a W := ⟨h.inv.gone, h.fr, h.below, h.grew, h.had, h.defers⟩

theorem tAppP_spec {P : Program} (hT : TTok P) {B : Nat} {W0 : World} {m0 : Mem} {E : Env} {st : St} {a : Act} {W : World} {o : Oper} {t : TypeId} {s x : Operand} {k : SV → St → Prop} {next : Act → World → Prop} {Q : Exit → Act → World → Prop}
    (h : Sim B W0 m0 E st a W) (ho : o.op = .call { callee := .builtin .append, args := #[s, x], argTypes := #[t, t] }) (hk : tAppP arS st t (st.ev 0 s) (st.ev 0 x) k) (hn : Nexts false B W0 m0 a W o next k) : o.wp P a W next Q := by
  have hs := RepS.ev h.fr 0 s
  have hx := RepS.ev h.fr 0 x
  generalize st.ev 0 s = ss at *
  generalize st.ev 0 x = sx at *
  unfold tAppP at hk
  split at hk
  · rename_i e hd
    obtain ⟨d, hd1, hd2⟩ := (hT.of_ok (t := t) (by rw [hd]; rfl)).desc
    rw [hd] at hd2
    cases d <;> try exact False.elim hd2
    cases hd2
    split at hk
    · rename_i hc
      split at hk
      · rename_i j
        split at hk
        · rename_i ys sp ob' hu
          obtain ⟨E1, e1, i1, r1⟩ := SV.use_spec h.inv hx hu
          have h1 := h.ext e1 i1
          have hs1 := hs.mono e1.le
          have hy : RepV E1.μ (.sl ys sp) (a.eval x) := r1
          rw [RepV] at hy
          obtain ⟨ad, cap, ew, hcap, hel⟩ := hy
          rcases hel with ⟨e0, _⟩ | ⟨b, o', sz', rfl, hE, _⟩
          · unfold tApp at hk
            split at hk
            · split at hk
              · have := hk.1 trivial; rw [e0] at this; simp at this
              · exact hk.elim
            · exact hk.elim
          · obtain ⟨news, hX, hnews⟩ := hE.toX
            exact tApp_spec hT (st := ⟨st.fr, ob'⟩) h1 ho hd1 hc.1 hs1 ew (OwnX.of_rep hX) List.nodup_nil (fun g hg => by simp at hg) (fun q u hq => by rw [Addr.add_mid]; exact i1.mu _ _ _ (hnews q u hq)) hX.all_oneCell hk hn (st0 := st) (E0 := E)
        · split at hk
          · rename_i b n sz _
            split at hk
            · rename_i row hb
              split at hk
              · rename_i ps ob' hmv
                split at hk
                · rename_i ys hch
                  obtain ⟨hbn, o', cap, ew, hcap, ho'⟩ := hx
                  obtain ⟨h1, ⟨tt', ws, h2, h3⟩, h4⟩ := h.inv.obs b _ hb
                  obtain ⟨E1, F, e1, i1, hL, hfn, hfr⟩ := moveRow_spec h.inv h3 hmv
                  have hs1 := hs.mono e1.le
                  obtain ⟨hX, hyl⟩ := hL.pchunks hch
                  have hpos : 0 < n := by
                    unfold tApp at hk
                    split at hk
                    · split at hk
                      · have := (hk.1 trivial).1; omega
                      · exact hk.elim
                    · exact hk.elim
                  have eo := ho' hpos
                  subst eo
                  refine tApp_spec hT (st := ⟨st.fr, ob'⟩) (h.ext e1 i1) ho hd1 hc.1 hs1 (by rw [ew, hyl]) hX hfn hfr (fun q u hq => ?_) hL.all_one hk hn (st0 := st) (E0 := E)
                  rw [Addr.add_mid, Nat.zero_add, cell_of_row W _ q _ tt' (0, 0) h2]; simpa using hq
                · exact hk.elim
              · exact hk.elim
            · exact hk.elim
          · rename_i q _
            split at hk
            · rename_i ys s2 e2 sz2 b2 t2 hq
              have hoq := h.inv.obs q _ hq
              rcases hoq.treBlk with ⟨hv, hy, _⟩ | ⟨cap, cur, C1, C2, G1, G2, hv, hg, hcap, hcm, hcs, hB, htk, hX1, hX2, hbl, h0, hmu⟩
              · unfold tApp at hk
                split at hk
                · split at hk
                  · have := (hk.1 trivial).1; rw [hy] at this; simp at this
                  · exact hk.elim
                · exact hk.elim
              · have hnd := hoq.2.1
                rw [hbl, List.nodup_cons, List.nodup_append] at hnd
                refine tApp_spec hT (st := ⟨st.fr, st.ob.set q .gone⟩) h.gone ho hd1 hc.1 hs (by rw [hx.2.1, hv]) hX1 hnd.2.1 (fun g hg' r orr hor hw => ?_) (fun p u hp => ?_) (hX1.all_one') hk hn (st0 := st) (E0 := E)
                · rw [List.getElem?_set] at hor
                  split at hor
                  · split at hor
                    · cases hor; exact hw
                    · cases hor
                  · rename_i hne
                    exact h.inv.apart q r _ orr g hne hq hor (show g ∈ E.bl q by rw [hbl]; simp [hg']) hw
                · rw [Addr.add_mid, Nat.zero_add]
                  exact tre_cell (k := q) (E := E) (W := W) hg htk hp (xs := ys) (s := s2) (by_ := b2) (cap := cap) (sz := sz2) (B := B)
            · exact hk.elim
          · exact hk.elim
      · exact hk.elim
    · exact hk.elim
  · exact hk.elim

end Go.Eng
