/-
  Own slices whose rows hold own slices are laid over by a copy.
-/
import Derived.Test.YtgihmigiecfmaaaEngQ7
namespace Go.Eng
open Go Go.RowKit
set_option linter.unusedVariables false

def tCopyP (ar : Ar) (st : St) (t : TypeId) (d x : SV) (k : SV → St → Prop) : Prop :=
  match (tt t).d with
  | .slice e => if (tt e).d.ok = true then
      match d with
      | .s (.own j) => match x.use ar st.ob with
        | some (.s (.sl ys _), ob') => match ob'[j]? with
          | some (.tre xs s e' sz by_ _) => if sz = (tt e).size ∧ e' = e then (True → ∀ y ∈ ys, rlen y = (tt e).size) ∧ k (.s (.p (.v (.int .i64 (ar.min (ar.len ys) (ar.len xs)))))) ⟨st.fr, ob'.set j (.tre (ar.cpy xs ys) s e' sz by_ none)⟩ else False
          | _ => False
        | _ => False
      | _ => False
    else False
  | _ => False

theorem tCopyP_spec {P : Program} (hT : TTok P) {B : Nat} {W0 : World} {m0 : Mem} {E : Env} {st : St} {a : Act} {W : World} {o : Oper} {t t' : TypeId} {d x : Operand} {k : SV → St → Prop} {next : Act → World → Prop} {Q : Exit → Act → World → Prop}
    (h : Sim B W0 m0 E st a W) (ho : o.op = .call { callee := .builtin .copy, args := #[d, x], argTypes := #[t, t'] }) (hk : tCopyP arS st t (st.ev 0 d) (st.ev 0 x) k) (hn : Nexts false B W0 m0 a W o next k) : o.wp P a W next Q := by
  have hd := RepS.ev h.fr 0 d
  have hx := RepS.ev h.fr 0 x
  generalize st.ev 0 d = sd at *
  generalize st.ev 0 x = sx at *
  have fin : ∀ v W', (Builtin.copy_ #[t, t'] o.type #[a.eval d, a.eval x]).run P W = .ok v W' → next (a.put o.dst v) W' → o.wp P a W next Q := fun v W' hr hnx => by
    refine wp_value (w' := W') (v := v) ?_ hnx
    unfold execOp
    simp only [ho]
    simp [resolve, invoke, builtin, hr]
  unfold tCopyP at hk
  split at hk
  · rename_i e hdd
    obtain ⟨dd, hd1, hd2⟩ := (hT.of_ok (t := t) (by rw [hdd]; rfl)).desc
    rw [hdd] at hd2
    cases dd <;> try exact False.elim hd2
    cases hd2
    split at hk
    · rename_i hok
      split at hk
      · rename_i j
        split at hk
        · rename_i ys sp ob' hu
          obtain ⟨E1, e1, i1, r1⟩ := SV.use_spec h.inv hx hu
          have h1 := h.ext e1 i1
          have hd3 := hd.mono e1.le
          split at hk
          · rename_i xs s e' sz by_ lt hj
            split at hk
            · rename_i hc
              obtain ⟨rfl, rfl⟩ := hc
              obtain ⟨hside, hk⟩ := hk
              have hrl := hside trivial
              obtain ⟨ti, z, hti, hs1, _⟩ := (hT.of_ok hok).info
              have hr1 : RepV E1.μ (.sl ys sp) (a.eval x) := r1
              rw [RepV] at hr1
              obtain ⟨ad, cap, ew, hcap, hel⟩ := hr1
              have hlt := (List.getElem?_eq_some_iff.1 hj).1
              have hval : ∀ E' : Env, RepS E' (.s (.p (.v (.int .i64 (arS.min (arS.len ys) (arS.len xs)))))) (goInt ((min ys.length xs.length : Nat) : Int)) := fun E' => by
                refine ⟨?_, rfl⟩
                simp only [arS, goInt]
                congr 1
                omega
              by_cases h0 : min ys.length xs.length = 0
              · obtain ⟨_, ad2, cap2, C1, C2, G1, G2, hw, _⟩ := (i1.obs j _ hj).1
                have ed : a.eval d = .slice ad2 xs.length cap2 := hd3.2.1.trans hw
                have ec : arS.cpy xs ys = xs := by
                  simp only [arS]
                  rcases Nat.le_total ys.length xs.length with hle | hle
                  · rw [Nat.min_eq_left hle] at h0
                    rw [List.eq_nil_of_length_eq_zero h0]; simp
                  · rw [Nat.min_eq_right hle] at h0
                    rw [List.eq_nil_of_length_eq_zero h0]; simp
                rw [ec] at hk
                have i2 := (i1.trePut hj (row := none) (grownBy_refl _ _) (fun g e => by cases e) (i1.obs j _ hj).1 (i1.obs j _ hj).2.1 (fun g hg => .inl hg))
                have := hval (E1.bls j (E1.bl j))
                rw [h0] at this
                exact fin _ W (by rw [ed, ew]; exact run_copy_zero W t t' o.type e' ad2 ad _ _ _ _ ti hd1 hti h0) (hn _ _ _ _ _ hk ⟨i2.2, h1.fr.mono i2.1, h1.below, h1.grew, h1.had, h1.defers⟩ this (fun e => by cases e))
              · rcases hel with ⟨e0, _⟩ | ⟨b, off, sz', rfl, hE, _⟩
                · rw [e0] at h0; simp at h0
                · have hpos : 0 < ys.length := by
                    rcases Nat.eq_zero_or_pos ys.length with h' | h'
                    · rw [h'] at h0; simp at h0
                    · exact h'
                  have hszz : sz' = (tt e').size := by
                    have hx0 : ys[0]? = some (ys[0]'hpos) := List.getElem?_eq_getElem _
                    rw [← (hE.get 0 _ hx0).1]
                    exact hrl _ (List.mem_of_getElem? hx0)
                  subst hszz
                  obtain ⟨news, hX, hnews⟩ := hE.toX
                  have hXt := hX.take (min ys.length xs.length)
                  generalize hcs : news.take (min ys.length xs.length * (tt e').size) = cs at *
                  have hcl : cs.length = min ys.length xs.length * (tt e').size := by
                    rw [hXt.length, List.length_take, Nat.min_eq_left (Nat.min_le_left _ _)]
                  have hxpos : 0 < xs.length := by
                    rcases Nat.eq_zero_or_pos xs.length with h' | h'
                    · rw [h'] at h0; simp at h0
                    · exact h'
                  have hcpy : arS.cpy xs ys = ys.take (min ys.length xs.length) ++ xs.drop (min ys.length xs.length) := by
                    simp only [arS]
                    rcases Nat.le_total ys.length xs.length with hle | hle
                    · rw [Nat.min_eq_left hle, List.take_of_length_le hle, List.take_length]
                    · rw [Nat.min_eq_right hle, List.drop_of_length_le hle, List.drop_length]
                  rw [hcpy] at hk
                  obtain ⟨cur, hg, hfit, hB, E', hle, hmu, i2⟩ := i1.treStoreG (xs' := ys.take (min ys.length xs.length) ++ xs.drop (min ys.length xs.length)) (q := 0) (n := min ys.length xs.length * (tt e').size) (ws := cs) (F := [])
                    (fun cur => W.setRow (E1.ρ j) (cur.toList.take 0 ++ cs ++ cur.toList.drop (0 + min ys.length xs.length * (tt e').size)).toArray) hj hxpos (by simp; omega) hcl (fun g hg => by simp at hg)
                    (fun cur hg _ => ⟨grownBy_setRow W _ _, setRow_heap W _ _ _ e' _ hg⟩)
                    (fun C G hX => by rw [hX.length, Nat.zero_add]; exact Nat.mul_le_mul_right _ (Nat.min_le_right _ _))
                    (fun W' hgr hρF C G hX2 => by
                      obtain ⟨F1, F2, f1, f2, f3⟩ := hX2.drop (min ys.length xs.length)
                      refine ⟨[] ++ F2, ?_, fun g hg => .inl (by rw [f1]; simpa using Or.inr hg), fun hnd _ => ?_⟩
                      · rw [List.take_zero, List.nil_append, Nat.zero_add]
                        exact (OwnX.of_rep (B := B) (W := W') hXt).append f3
                      · rw [f1] at hnd
                        exact (List.nodup_append.1 hnd).2.1)
                  have hv : ∃ cap', E1.ov j = .slice (some ⟨E1.ρ j, 0, none⟩) xs.length cap' := by
                    rcases (i1.obs j _ hj).treBlk with ⟨_, hn0, _⟩ | ⟨cap', _, _, _, _, _, hv, _⟩
                    · rw [hn0] at hxpos; simp at hxpos
                    · exact ⟨cap', hv⟩
                  obtain ⟨cap', hv⟩ := hv
                  have hrun := run_copy_wide (P := P) W t t' o.type e' (E1.ρ j) xs.length cap' ⟨b, off, none⟩ ys.length cap (min ys.length xs.length) cur e' cs ti hd1 hti hg rfl (by rw [hcl, hs1])
                    (fun q v hq => by
                      rw [Addr.add_mid]
                      refine i1.mu _ _ _ (hnews q v ?_)
                      rw [← hcs, List.getElem?_take] at hq
                      split at hq
                      · exact hq
                      · cases hq) (by omega) hXt.all_oneCell
                  have ecur : (cs ++ cur.toList.drop cs.length) = (cur.toList.take 0 ++ cs ++ cur.toList.drop (0 + min ys.length xs.length * (tt e').size)) := by
                    rw [List.take_zero, List.nil_append, Nat.zero_add, hcl]
                  rw [ecur] at hrun
                  exact fin _ _ (by rw [hd3.2.1, hv, ew]; exact hrun) (hn _ _ E' _ _ hk ⟨i2, h1.fr.mono hle, below_setRow h1.below hB _, by rw [hmu]; exact h1.grew, by rw [hmu]; exact h1.had, h1.defers⟩ (hval E') (fun e => by cases e))
            · exact hk.elim
          · exact hk.elim
        · exact hk.elim
      · exact hk.elim
    · exact hk.elim
  · exact hk.elim

/-! ### What has been eaten -/
theorem World.setBlock_grown (W : World) (g : Nat) (x : Obj) : W.grownBy { W with heap := W.heap.setIfInBounds g x } (some g) :=
  ⟨rfl, rfl, rfl, by simp, fun k hk hne => by
    show (W.heap.setIfInBounds g x)[k]? = W.heap[k]?
    rw [Array.getElem?_setIfInBounds_ne (fun e => hne (by rw [e]))]⟩

theorem Ob.map_id (o : Ob) : o.map idS = o := by cases o <;> rfl

/-- A block that nobody holds turns. -/
theorem Inv.otherBlock {B : Nat} {E : Env} {ob : List Ob} {W W' : World} {g : Nat} (h : Inv B E ob W) (hg : W.grownBy W' (some g)) (hf : ∀ j oj, ob[j]? = some oj → ¬ Wb E j oj g) (hm : ∀ o, E.μ g o = none) : Inv B E ob W' := by
  refine ⟨Nat.le_trans h.size hg.size, h.n, fun b o w hw => hg.cell (h.mu b o w hw) (fun e => ?_), fun k o hk => ?_, h.apart⟩
  · have : b = g := Option.some.inj e
    rw [this, hm o] at hw; cases hw
  · have := (h.obs k o hk).keep (E' := E) (W' := W') idS rfl rfl rfl (Mem.le_refl _) (fun g hg i hi => hi) (idS_ok (Env.le_refl E)) hg (fun g' hg' e => by cases e; exact hf k o hk hg')
    rw [Ob.map_id] at this
    exact this

/-- Blocks that nobody holds turn. -/
theorem Inv.otherBlocks {B : Nat} {E : Env} {ob : List Ob} : ∀ {F : List Nat} {W W' : World}, Inv B E ob W → (∀ g ∈ F, ∀ j oj, ob[j]? = some oj → ¬ Wb E j oj g) → (∀ g ∈ F, ∀ o, E.μ g o = none) →
    W'.os = W.os → W'.tape = W.tape → W'.output = W.output → W.heap.size ≤ W'.heap.size → (∀ g, g < W.heap.size → g ∉ F → W'.heap[g]? = W.heap[g]?) → Inv B E ob W'
  | [], W, W', h, _, _, h1, h2, h3, h4, h5 => by
    have := h.world (m := E.μ) (W' := W') ⟨h1, h2, h3, h4, fun k hk _ => h5 k hk (by simp)⟩ (Mem.le_refl _) (fun b o w hm => .inl hm) (fun b o w hm => by
      exact (World.cell?_of_block (h5 b (World.cell_lt (h.mu b o w hm)) (by simp))).trans (h.mu b o w hm))
    exact this
  | f :: F, W, W', h, hf, hm, h1, h2, h3, h4, h5 => by
    by_cases hlt : f < W.heap.size
    · obtain ⟨x, hx⟩ : ∃ x, W'.heap[f]? = some x := ⟨_, Array.getElem?_eq_getElem (by omega)⟩
      have i1 := h.otherBlock (World.setBlock_grown W f x) (hf f (by simp)) (hm f (by simp))
      refine Inv.otherBlocks (F := F) i1 (fun g hg => hf g (by simp [hg])) (fun g hg => hm g (by simp [hg])) h1 h2 h3 (by simpa using h4) (fun g hg hn => ?_)
      have hg' : g < W.heap.size := by simpa using hg
      show W'.heap[g]? = (W.heap.setIfInBounds f x)[g]?
      by_cases e : g = f
      · subst e
        rw [hx, Array.getElem?_setIfInBounds_self]
        simp [hg']
      · rw [Array.getElem?_setIfInBounds_ne (fun e' => e e'.symm)]
        exact h5 g hg' (by simp [e, hn])
    · exact Inv.otherBlocks (F := F) h (fun g hg => hf g (by simp [hg])) (fun g hg => hm g (by simp [hg])) h1 h2 h3 h4 (fun g hg hn => h5 g hg (by simp; exact ⟨fun e => hlt (by rw [← e]; exact hg), hn⟩))

end Go.Eng
