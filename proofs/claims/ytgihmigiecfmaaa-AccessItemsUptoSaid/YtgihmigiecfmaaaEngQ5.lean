/-
  Stores into own slices whose rows hold own slices; they grow, are cut.
-/
import Derived.Test.YtgihmigiecfmaaaEngQ4
namespace Go.Eng
open Go Go.RowKit
set_option linter.unusedVariables false

def cellsSV : SV → Option (List Seg)
  | .s c => some [.c c]
  | .a row => some row
  | _ => none

theorem cellsSV_spec {E : Env} {sv : SV} {w : Value} {cs : List Seg} (h : RepS E sv w) (hc : cellsSV sv = some cs) : ∃ ws : List Value, w.cells = ws.toArray ∧ RepG E cs ws := by
  cases sv with
  | s c => cases hc; exact ⟨[w], cells_oneCell (RepK.oneCell h), w, [], rfl, h, rfl⟩
  | a row => cases hc; obtain ⟨ws, e, hr⟩ := h; exact ⟨ws, by rw [e]; rfl, hr⟩
  | un => cases hc
  | ud => cases hc
  | t _ => cases hc

def tStoreP (ar : Ar) (st : St) (t : TypeId) (p x : SV) (k : SV → St → Prop) : Prop :=
  match p with
  | .s (.ept j base sz i off) => match cellsSV x with
    | some cs => match moveRow ar st.ob cs with
      | some (ps, ob') => match ob'[j]? with
        | some (.tre xs s e sz' by_ _) => if base = 0 ∧ sz = sz' ∧ (tt t).d.ok = true ∧ rlen ps = (tt t).size then
            ∃ row, xs[i]? = some row ∧ match pmid row off (tt t).size with
              | some (a, _, c) => k .un ⟨st.fr, ob'.set j (.tre (ar.setx xs i (a ++ (ps ++ c))) s e sz by_ none)⟩
              | none => match plainOf x with
                | some v => match pfind row off with
                  | some _ => k .un ⟨st.fr, ob'.set j (.tre (ar.setx xs i (pfput ar row off v)) s e sz by_ none)⟩
                  | none => False
                | none => False
          else False
        | _ => False
      | none => False
    | none => False
  | _ => False

theorem splice_len {α : Type} {C ws : List α} {q n : Nat} (h : q + n ≤ C.length) (hw : ws.length = n) : (C.take q ++ ws ++ C.drop (q + n)).length = C.length := by
  simp only [List.length_append, List.length_take, List.length_drop, hw]; omega

/-- What is spliced into the first cells. -/
theorem splice_take2 {α : Type} {cur C1 C2 ws : List α} {N q n : Nat} (htk : cur.take N = C1 ++ C2) (hq : q + n ≤ C1.length) (hw : ws.length = n) (hN : N ≤ cur.length) :
    (cur.take q ++ ws ++ cur.drop (q + n)).take N = (C1.take q ++ ws ++ C1.drop (q + n)) ++ C2 := by
  have hl : (cur.take N).length = N := by rw [List.length_take]; omega
  have hlen : C1.length + C2.length = N := by rw [← List.length_append, ← htk, hl]
  have ec : cur = (C1 ++ C2) ++ cur.drop N := by rw [← htk, List.take_append_drop]
  generalize cur.drop N = R at ec
  subst ec
  have e1 : (C1 ++ C2 ++ R).take q = C1.take q := by rw [List.append_assoc, List.take_append_of_le_length (by omega)]
  have e2 : (C1 ++ C2 ++ R).drop (q + n) = C1.drop (q + n) ++ C2 ++ R := by rw [List.append_assoc, List.drop_append_of_le_length hq, List.append_assoc]
  rw [e1, e2]
  have e3 : (C1.take q ++ ws ++ (C1.drop (q + n) ++ C2 ++ R)) = (C1.take q ++ ws ++ C1.drop (q + n) ++ C2) ++ R := by simp
  rw [e3, List.take_append_of_le_length (by rw [List.length_append, splice_len hq hw]; omega), List.take_of_length_le (by rw [List.length_append, splice_len hq hw]; omega)]

theorem nodup_swap {A f D F : List Nat} (h : (A ++ (f ++ D)).Nodup) (hF : F.Nodup) (hd : ∀ g ∈ F, g ∉ A ++ (f ++ D)) : (A ++ (F ++ D)).Nodup := by
  rw [List.nodup_append, List.nodup_append] at h ⊢
  refine ⟨h.1, ⟨hF, h.2.1.2.1, fun x hx y hy e => ?_⟩, fun x hx y hy e => ?_⟩
  · subst e; exact hd x hx (by simp [hy])
  · subst e
    rcases List.mem_append.1 hy with hy | hy
    · exact hd x hy (by simp [hx])
    · exact h.2.2 x hx x (List.mem_append_right _ hy) rfl

/-- Some of its cells are written (or seen anew). -/
theorem Inv.treStoreG {B : Nat} {E : Env} {ob : List Ob} {W : World} {j q n : Nat} {xs xs' s : List (List PS)} {e : TypeId} {sz by_ : Nat} {t : Option (Nat × Nat × Nat × List PS)} {ws : List Value} {F : List Nat} (W' : Array Value → World)
    (h : Inv B E ob W) (hj : ob[j]? = some (.tre xs s e sz by_ t)) (hne : 0 < xs.length) (hlen : xs'.length = xs.length) (hw : ws.length = n) (hfr : Free E ob F)
    (hW : ∀ cur : Array Value, W.heap[E.ρ j]? = some (.cells cur e (0, 0)) → q + n ≤ cur.size → W.grownBy (W' cur) (some (E.ρ j)) ∧ (W' cur).heap[E.ρ j]? = some (.cells (cur.toList.take q ++ ws ++ cur.toList.drop (q + n)).toArray e (0, 0)))
    (hfit : ∀ C G, OwnX B E.μ W xs sz C G → q + n ≤ C.length)
    (hput : ∀ W', W.grownBy W' (some (E.ρ j)) → E.ρ j ∉ F → ∀ C G, OwnX B E.μ W' xs sz C G → ∃ G', OwnX B E.μ W' xs' sz (C.take q ++ ws ++ C.drop (q + n)) G' ∧ (∀ g ∈ G', g ∈ G ∨ g ∈ F) ∧ (G.Nodup → (∀ g ∈ F, g ∉ G) → G'.Nodup)) :
    ∃ cur : Array Value, W.heap[E.ρ j]? = some (.cells cur e (0, 0)) ∧ q + n ≤ cur.size ∧ B ≤ E.ρ j ∧
      ∃ E', E.le E' ∧ E'.μ = E.μ ∧ Inv B E' (ob.set j (.tre xs' s e sz by_ none)) (W' cur) := by
  have ho := h.obs j _ hj
  have hlt := (List.getElem?_eq_some_iff.1 hj).1
  rcases ho.treBlk with ⟨_, hn, _⟩ | ⟨cap, cur, C1, C2, G1, G2, hv, hg, hcap, hcm, hcs, hB, htk, hX1, hX2, hbl, h0, hmu⟩
  · rw [hn] at hne; simp at hne
  · have hnd : (E.bl j).Nodup := ho.2.1
    have hFj : ∀ g ∈ F, g ∉ E.bl j := fun g hg hb => hfr g hg j _ hj hb
    have hρF : E.ρ j ∉ F := fun hm => hFj _ hm (by rw [hbl]; simp)
    rw [hbl] at hnd
    rw [List.nodup_cons, List.nodup_append] at hnd
    have hcl : cur.toList.length = cur.size := by simp
    have hNle : (xs.length + s.length) * sz ≤ cur.toList.length := by
      rw [hcl, hcs]; exact Nat.mul_le_mul_right _ hcap
    have hC1le : C1.length ≤ cur.size := by
      have := congrArg List.length htk
      rw [List.length_take, List.length_append, Nat.min_eq_left hNle] at this
      omega
    have hq := hfit C1 G1 hX1
    obtain ⟨hgr, hheap⟩ := hW cur hg (by omega)
    have hX1' := hX1.keep (Mem.le_refl _) hgr (fun g hg' e' => hnd.1 (by cases e'; simp [hg'])) (fun g hg' o => (hX1.lt g hg').2 o)
    have hX2' := hX2.keep (Mem.le_refl _) hgr (fun g hg' e' => hnd.1 (by cases e'; simp [hg'])) (fun g hg' o => (hX2.lt g hg').2 o)
    obtain ⟨G', k1, k2, k3⟩ := hput _ hgr hρF C1 G1 hX1'
    have hG1 : ∀ g, g ∈ G1 → g ∈ E.bl j := fun g hg => by rw [hbl]; simp [hg]
    refine ⟨cur, hg, by omega, hB, ?_⟩
    have hOw : OwnV B E.μ (W' cur) (.on xs' s e sz by_) (E.ov j) (E.ρ j :: (G' ++ G2)) := by
      rw [hv, ← hlen]
      exact OwnV.mkOn (b := by_) (xs := xs') (s := s) (m := E.μ) (B := B) (cap := cap) h0 hheap hB (by omega) hcm (by
        simp only [List.size_toArray]; rw [splice_len (by omega) hw]; simpa using hcs) (by
        rw [hlen]; exact splice_take2 htk hq hw hNle) k1 hX2' hmu
    obtain ⟨hle, i1⟩ := h.trePut hj (row := some (E.ρ j)) hgr (fun g e' => by cases e'; rw [hbl]; simp) hOw (by
      rw [List.nodup_cons, List.nodup_append]
      refine ⟨fun hm => ?_, k3 hnd.2.1 (fun g hg hm => hFj g hg (hG1 g hm)), hnd.2.2.1, fun x hx y hy e' => ?_⟩
      · rcases List.mem_append.1 hm with hm | hm
        · rcases k2 _ hm with hm | hm
          · exact hnd.1 (by simp [hm])
          · exact hρF hm
        · exact hnd.1 (by simp [hm])
      · subst e'
        rcases k2 _ hx with hx | hx
        · exact hnd.2.2.2 x hx x hy rfl
        · exact hFj x hx (by rw [hbl]; simp [hy])) (fun g hg' => by
      simp only [List.mem_cons, List.mem_append] at hg'
      rcases hg' with rfl | hg' | hg'
      · exact .inl (by rw [hbl]; simp)
      · rcases k2 _ hg' with hg' | hg'
        · exact .inl (hG1 g hg')
        · exact .inr fun q oq hq hoq => hfr g hg' q oq hoq
      · exact .inl (by rw [hbl]; simp [hg']))
    exact ⟨_, hle, rfl, i1⟩

/-- A row's place. -/
theorem row_fit {B : Nat} {m : Mem} {W : World} {xs : List (List PS)} {sz i : Nat} {C : List Value} {G : List Nat} {row : List PS} (hX : OwnX B m W xs sz C G) (hi : xs[i]? = some row) : i * sz + sz ≤ C.length := by
  have hlt : i < xs.length := (List.getElem?_eq_some_iff.1 hi).1
  rw [hX.length, show i * sz + sz = (i + 1) * sz by rw [Nat.add_mul, Nat.one_mul]]
  exact Nat.mul_le_mul_right _ hlt

theorem tStoreP_spec {P : Program} (hT : TTok P) {B : Nat} {W0 : World} {m0 : Mem} {E : Env} {st : St} {a : Act} {W : World} {o : Oper} {t : TypeId} {p x : Operand} {k : SV → St → Prop} {next : Act → World → Prop} {Q : Exit → Act → World → Prop}
    (h : Sim B W0 m0 E st a W) (ho : o.op = .store t p x) (hk : tStoreP arS st t (st.ev 0 p) (st.ev t x) k) (hn : Nexts false B W0 m0 a W o next k) : o.wp P a W next Q := by
  have hp := RepS.ev h.fr 0 p
  have hx := RepS.ev h.fr t x
  generalize st.ev 0 p = sp at *
  generalize st.ev t x = sx at *
  unfold tStoreP at hk
  split at hk
  · rename_i j base sz i off
    split at hk
    · rename_i cs hcs
      obtain ⟨ws, ew, hr⟩ := cellsSV_spec hx hcs
      split at hk
      · rename_i ps ob' hmv
        obtain ⟨E1, F, e1, i1, hL, hfn, hfr⟩ := moveRow_spec h.inv hr hmv
        have h1 := h.ext e1 i1
        split at hk
        · rename_i xs s e sz' by_ lt hj
          split at hk
          · rename_i hc
            obtain ⟨rfl, rfl, hok, hrl⟩ := hc
            obtain ⟨row, hrow, hk⟩ := hk
            have hwl : ws.length = (tt t).size := by rw [hL.length, hrl]
            obtain ⟨ti, z, hti, hsize, _⟩ := (hT.of_ok hok).info
            have hpe : a.eval p = .pointer (some ⟨E1.ρ j, i * sz + off, none⟩) := by
              rw [hp.2, e1.le.ρ j hp.1, Nat.zero_add]
            have fin : ∀ {row' : List PS} {cur : Array Value} {E' : Env}, W.heap[E1.ρ j]? = some (.cells cur e (0, 0)) → i * sz + off + (tt t).size ≤ cur.size → B ≤ E1.ρ j → E1.le E' → E'.μ = E1.μ →
                Inv B E' (ob'.set j (.tre (xs.set i row') s e sz by_ none)) (W.setRow (E1.ρ j) (cur.toList.take (i * sz + off) ++ ws ++ cur.toList.drop (i * sz + off + (tt t).size)).toArray) →
                k .un ⟨st.fr, ob'.set j (.tre (xs.set i row') s e sz by_ none)⟩ → o.wp P a W next Q := fun {row' cur E'} hg hfit hB hle hmu i2 hk => by
              have hones : ∀ c ∈ (a.eval x).cells.toList, c.oneCell' = true := fun c hc => by
                rw [ew] at hc; exact hL.all_one c (by simpa using hc)
              have hsz2 : (a.eval x).cells.size = (tt t).size := by rw [ew]; simpa using hwl
              have := run_store_box (P := P) (t := t) (v := a.eval x) (off := i * sz + off) hg hti (by rw [hsz2, hsize]) (by rw [hsz2]; exact hfit) hones
              rw [hsz2, ew] at this
              refine wp_skipped (w' := W.setRow (E1.ρ j) (cur.toList.take (i * sz + off) ++ ws ++ cur.toList.drop (i * sz + off + (tt t).size)).toArray) ?_
                (hn _ _ E' _ _ hk ⟨i2, h1.fr.mono hle, below_setRow h1.below hB _, by rw [hmu]; exact h1.grew, by rw [hmu]; exact h1.had, h1.defers⟩ trivial (fun e => by cases e))
              unfold execOp
              simp only [ho, hpe]
              simp [this]
            split at hk
            · rename_i ra m c hpm
              obtain ⟨cur, hg, hfit, hB, E', hle, hmu, i2⟩ := i1.treStoreG (xs' := xs.set i (ra ++ (ps ++ c))) (q := i * sz + off) (fun cur => W.setRow (E1.ρ j) (cur.toList.take (i * sz + off) ++ ws ++ cur.toList.drop (i * sz + off + (tt t).size)).toArray) hj
                (by have := (List.getElem?_eq_some_iff.1 hrow).1; omega) (by simp) hwl hfr (fun cur hg _ => ⟨grownBy_setRow W _ _, setRow_heap W _ _ _ e _ hg⟩) (fun C G hX => by
                  obtain ⟨A, f, D, w0, q1, q2, q3, _⟩ := hX.piece hrow hpm
                  exact q3.1) (fun W' hgr hρF C G hX => by
                obtain ⟨A, f, D, w0, q1, q2, q3, q4, q5, q6⟩ := hX.piece hrow hpm
                have hL' := hL.keep (Mem.le_refl _) hgr (fun g hg e' => hρF (by cases e'; exact hg)) (fun g hg o => (hL.lt g hg).2 o)
                have := q6 ps ws F hrl hL'
                rw [← List.append_assoc ra]
                refine ⟨_, this, fun g hg => ?_, fun hnd hd => by rw [q1] at hnd hd; exact nodup_swap hnd hfn hd⟩
                rw [q1]
                simp only [List.mem_append] at hg ⊢
                rcases hg with hg | hg | hg
                · exact .inl (.inl hg)
                · exact .inr hg
                · exact .inl (.inr (.inr hg)))
              exact fin hg hfit hB hle hmu i2 hk
            · split at hk
              · rename_i v hpl
                split at hk
                · rename_i uq hf
                  obtain ⟨us, q⟩ := uq
                  obtain ⟨ev, hone⟩ := plainOf_spec hx hpl
                  have ews : ws = [v] := by
                    rw [ev, cells_oneCell hone] at ew
                    have := congrArg Array.toList ew
                    simpa using this.symm
                  have hF0 : F = [] ∨ True := .inr trivial
                  have hn1 : (tt t).size = 1 := by rw [← hwl, ews]; rfl
                  have hL0 : F = [] := by
                    have hsx : (∃ k n, sx = .s (.lit k n)) ∨ (∃ b, sx = .s (.bl b)) ∨ ∃ y, sx = .s (.p (.v y)) := by
                      unfold plainOf at hpl
                      split at hpl
                      · exact .inl ⟨_, _, rfl⟩
                      · exact .inr (.inl ⟨_, rfl⟩)
                      · exact .inr (.inr ⟨_, rfl⟩)
                      · cases hpl
                    have hps : ∃ y, ps = [.c y] ∧ ownB y = false := by
                      rcases hsx with ⟨b1, b2, e'⟩ | ⟨b, e'⟩ | ⟨b, e'⟩ <;> subst e' <;> cases hcs <;> simp [moveRow, zxRow, keepRow, CV.keep, CV.use, handL, handV, nodupB] at hmv <;> exact ⟨_, hmv.1.symm, rfl⟩
                    obtain ⟨y, ey, hy⟩ := hps
                    subst ey
                    obtain ⟨w, ws', F1, F2, _, eF, hv, hr2⟩ := hL
                    rw [eF, (OwnV.rep hy hv).2, hr2.2]; rfl
                  subst hL0
                  obtain ⟨cur, hg, hfit, hB, E', hle, hmu, i2⟩ := i1.treStoreG (xs' := xs.set i (pfput arS row off v)) (q := i * sz + off) (fun cur => W.setRow (E1.ρ j) (cur.toList.take (i * sz + off) ++ ws ++ cur.toList.drop (i * sz + off + (tt t).size)).toArray) hj
                    (by have := (List.getElem?_eq_some_iff.1 hrow).1; omega) (by simp) hwl hfr (fun cur hg _ => ⟨grownBy_setRow W _ _, setRow_heap W _ _ _ e _ hg⟩) (fun C G hX => by
                      obtain ⟨A, f, D, w0, q1, q2, q3, q4, q5⟩ := hX.at hrow
                      obtain ⟨p1, p2, p3⟩ := q3.pfind hf
                      have hwl0 : w0.length = sz := by rw [q3.length, q2]
                      have := row_fit hX hrow
                      omega) (fun W' hgr hρF C G hX => by
                    obtain ⟨A, f, D, w0, q1, q2, q3, q4, q5⟩ := hX.at hrow
                    obtain ⟨p1, p2, p3⟩ := q3.pfind hf
                    have hwl0 : w0.length = sz := by rw [q3.length, q2]
                    have hnew := q5 (pfput arS row off v) (w0.set off v) f (by rw [rlen_pfput, q2]) (q3.pfput hf hone)
                    rw [splice_set C w0 v (i * sz) off sz hwl0 (by omega) (row_fit hX hrow) q4] at hnew
                    rw [ews, hn1]
                    exact ⟨_, hnew, fun g hg => by rw [q1]; exact .inl hg, fun hnd _ => by rw [q1] at hnd; exact hnd⟩)
                  exact fin hg hfit hB hle hmu i2 hk
                · exact hk.elim
              · exact hk.elim
          · exact hk.elim
        · exact hk.elim
      · exact hk.elim
    · exact hk.elim
  · exact hk.elim

end Go.Eng
