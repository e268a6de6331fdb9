/-
  Own slices whose rows hold own slices, to any depth: what is taken out of a row, laid into it, laid behind, cut off.
-/
import Derived.Test.YtgihmigiecfmaaaEngQ
namespace Go.Eng
open Go Go.RowKit
set_option linter.unusedVariables false

/-! ### Pieces of a row -/
def pcut : List PS → Nat → Option (List PS × List PS)
  | row, 0 => some ([], row)
  | [], _ + 1 => none
  | .c x :: l, n + 1 => match pcut l n with | some (a, b) => some (.c x :: a, b) | none => none
  | .r m ws :: l, n + 1 => if m ≤ n + 1 then (match pcut l (n + 1 - m) with | some (a, b) => some (.r m ws :: a, b) | none => none) else none

def pmid (row : List PS) (off n : Nat) : Option (List PS × List PS × List PS) :=
  match pcut row off with
  | some (a, b) => match pcut b n with | some (m, c) => some (a, m, c) | none => none
  | none => none

section
variable {B : Nat} {m : Mem} {W : World}

theorem OwnL.append : ∀ {a b : List PS} {w1 w2 : List Value} {F1 F2 : List Nat}, OwnL B m W a w1 F1 → OwnL B m W b w2 F2 → OwnL B m W (a ++ b) (w1 ++ w2) (F1 ++ F2)
  | [], _, _, _, _, _, h, k => by rw [h.1, h.2]; exact k
  | .c x :: l, _, _, _, _, _, ⟨w, ws', G1, G2, e, eF, hv, hr⟩, k => by subst e; subst eF; exact ⟨w, _, G1, _, rfl, by simp, hv, OwnL.append hr k⟩
  | .r n us :: l, _, _, _, _, _, ⟨hl, ho, ws', e, hr⟩, k => by subst e; exact ⟨hl, ho, _, by simp, OwnL.append hr k⟩

theorem OwnL.cut : ∀ {row a b : List PS} {n : Nat} {ws : List Value} {F : List Nat}, OwnL B m W row ws F → pcut row n = some (a, b) →
    ∃ w1 w2 F1 F2, ws = w1 ++ w2 ∧ F = F1 ++ F2 ∧ w1.length = n ∧ OwnL B m W a w1 F1 ∧ OwnL B m W b w2 F2
  | row, a, b, 0, ws, F, h, hc => by
    have e : a = [] ∧ b = row := by cases row <;> simp [pcut] at hc <;> simp [hc]
    obtain ⟨rfl, rfl⟩ := e
    exact ⟨[], ws, [], F, rfl, rfl, rfl, ⟨rfl, rfl⟩, h⟩
  | [], _, _, n + 1, _, _, h, hc => by simp [pcut] at hc
  | .c x :: l, _, _, n + 1, _, _, ⟨w, ws', G1, G2, e, eF, hv, hr⟩, hc => by
    simp only [pcut] at hc
    split at hc
    · rename_i a' b' hc'
      cases hc
      obtain ⟨w1, w2, F1, F2, e1, e2, e3, e4, e5⟩ := OwnL.cut hr hc'
      exact ⟨w :: w1, w2, G1 ++ F1, F2, by rw [e, e1]; rfl, by rw [eF, e2]; simp, by simp [e3], ⟨w, w1, G1, F1, rfl, rfl, hv, e4⟩, e5⟩
    · cases hc
  | .r k us :: l, _, _, n + 1, _, _, ⟨hl, ho, ws', e, hr⟩, hc => by
    simp only [pcut] at hc
    split at hc
    · rename_i hle
      split at hc
      · rename_i a' b' hc'
        cases hc
        obtain ⟨w1, w2, F1, F2, e1, e2, e3, e4, e5⟩ := OwnL.cut hr hc'
        exact ⟨us ++ w1, w2, F1, F2, by rw [e, e1]; simp, e2, by simp [e3, hl]; omega, ⟨hl, ho, w1, rfl, e4⟩, e5⟩
      · cases hc
    · cases hc

theorem rlen_append : ∀ a b : List PS, rlen (a ++ b) = rlen a + rlen b
  | [], b => by simp [rlen]
  | p :: a, b => by simp only [List.cons_append, rlen, rlen_append a b]; omega

/-- A piece of one row. -/
theorem OwnX.piece {xs : List (List PS)} {sz : Nat} {C : List Value} {F : List Nat} {i off n : Nat} {row a mm c : List PS} (h : OwnX B m W xs sz C F) (hi : xs[i]? = some row) (hp : pmid row off n = some (a, mm, c)) :
    ∃ A f D ws, F = A ++ (f ++ D) ∧ ws.length = n ∧ (i * sz + off + n ≤ C.length ∧ off + n ≤ sz) ∧ (∀ q, q < n → C[i * sz + off + q]? = ws[q]?) ∧ OwnL B m W mm ws f ∧
      ∀ mm' ws' f', rlen mm' = n → OwnL B m W mm' ws' f' → OwnX B m W (xs.set i (a ++ mm' ++ c)) sz (C.take (i * sz + off) ++ ws' ++ C.drop (i * sz + off + n)) (A ++ (f' ++ D)) := by
  obtain ⟨A, f, D, w0, h1, h2, h3, h4, h5⟩ := h.at hi
  unfold pmid at hp
  split at hp
  · rename_i a' b hca
    split at hp
    · rename_i m' c' hcb
      cases hp
      obtain ⟨w1, wr, F1, Fr, e1, e2, e3, e4, e5⟩ := h3.cut hca
      obtain ⟨ws, w2, f1, F2, g1, g2, g3, g4, g5⟩ := e5.cut hcb
      have hwl : w0.length = sz := by rw [h3.length, h2]
      have hCl := h.length
      have hlt : i < xs.length := (List.getElem?_eq_some_iff.1 hi).1
      have hfit : i * sz + sz ≤ C.length := by
        rw [hCl, show i * sz + sz = (i + 1) * sz by rw [Nat.add_mul, Nat.one_mul]]
        exact Nat.mul_le_mul_right _ hlt
      have hsum : off + n + w2.length = sz := by rw [← hwl, e1, g1]; simp [e3, g3]; omega
      have e0 : w0 = (C.drop (i * sz)).take sz := by
        refine List.ext_getElem? fun q => ?_
        simp only [List.getElem?_take, List.getElem?_drop]
        split
        · rename_i hq; exact (h4 q hq).symm
        · rename_i hq; exact List.getElem?_eq_none (by omega)
      have hw1 : w1 = (C.drop (i * sz)).take off := by
        have : w0.take off = w1 := by rw [e1, ← e3, List.take_left]
        rw [← this, e0, List.take_take, Nat.min_eq_left (by omega)]
      have hw2 : w2 ++ C.drop (i * sz + sz) = C.drop (i * sz + off + n) := by
        have : w0.drop (off + n) = w2 := by rw [e1, g1, ← List.append_assoc, List.drop_append_of_le_length (by simp [e3, g3]), List.drop_of_length_le (by simp [e3, g3]), List.nil_append]
        have e9 : C.drop (i * sz + sz) = (C.drop (i * sz + off + n)).drop (sz - (off + n)) := by rw [List.drop_drop]; congr 1; omega
        rw [← this, e0, List.drop_take, List.drop_drop, show i * sz + (off + n) = i * sz + off + n by omega, e9, List.take_append_drop]
      refine ⟨A ++ F1, f1, F2 ++ D, ws, by rw [h1, e2, g2]; simp, g3, by omega, fun q hq => ?_, g4, fun mm' ws' f' hl' hm' => ?_⟩
      · rw [show i * sz + off + q = i * sz + (off + q) by omega, h4 (off + q) (by omega), e1, List.getElem?_append_right (by omega), e3, Nat.add_sub_cancel_left, g1, List.getElem?_append_left (by omega)]
      · have hnew := h5 (a ++ mm' ++ c) (w1 ++ ws' ++ w2) (F1 ++ f' ++ F2) (by
          have r1 := e4.length
          have r2 := g5.length
          rw [rlen_append, rlen_append, ← r1, ← r2, hl', e3]; omega) ((e4.append hm').append g5)
        have eC : C.take (i * sz) ++ (w1 ++ ws' ++ w2) ++ C.drop (i * sz + sz) = C.take (i * sz + off) ++ ws' ++ C.drop (i * sz + off + n) := by
          rw [List.take_add, ← hw1, ← hw2]; simp
        rw [eC] at hnew
        simpa using hnew
    · cases hp
  · cases hp

theorem OwnX.of_rep : ∀ {xs : List (List PS)} {sz : Nat} {C : List Value}, RepX m xs sz C → OwnX B m W xs sz C []
  | [], _, _, h => ⟨h, rfl⟩
  | _ :: _, _, _, ⟨w, C', e, hl, hw, hr⟩ => ⟨w, C', [], [], e, rfl, hl, OwnL.of_rep hw, OwnX.of_rep hr⟩

theorem OwnX.drop : ∀ {xs : List (List PS)} {sz : Nat} {C : List Value} {F : List Nat} (n : Nat), OwnX B m W xs sz C F → ∃ F1 F2, F = F1 ++ F2 ∧ OwnX B m W (xs.take n) sz (C.take (n * sz)) F1 ∧ OwnX B m W (xs.drop n) sz (C.drop (n * sz)) F2
  | [], sz, C, F, n, h => ⟨[], [], by rw [h.2]; rfl, by rw [h.1]; simp [OwnX], by rw [h.1]; simp [OwnX]⟩
  | x :: xs, sz, C, F, 0, h => ⟨[], F, rfl, by simp [OwnX], by simpa using h⟩
  | x :: xs, sz, _, _, n + 1, ⟨w, C', F1, F2, e, eF, hl, hv, hr⟩ => by
    subst e; subst eF
    have hwl : w.length = sz := by rw [hv.length, hl]
    obtain ⟨G1, G2, g1, g2, g3⟩ := OwnX.drop n hr
    refine ⟨F1 ++ G1, G2, by rw [g1]; simp, ?_, ?_⟩
    · rw [List.take_succ_cons, show (n + 1) * sz = w.length + n * sz by rw [hwl, Nat.add_mul]; omega, List.take_length_add_append]
      exact ⟨w, _, F1, G1, rfl, rfl, hl, hv, g2⟩
    · rw [List.drop_succ_cons, show (n + 1) * sz = w.length + n * sz by rw [hwl, Nat.add_mul]; omega, List.drop_length_add_append]
      exact g3

theorem OwnV.mkOn {xs s : List (List PS)} {e : TypeId} {sz b g cap : Nat} {cur : Array Value} {C1 C2 : List Value} {G1 G2 : List Nat} (h0 : 0 < sz) (hg : W.heap[g]? = some (.cells cur e (0, 0))) (hB : B ≤ g) (hcap : xs.length + s.length ≤ cap)
    (hcm : cap ≤ maxLen) (hcs : cur.size = cap * sz) (htk : cur.toList.take ((xs.length + s.length) * sz) = C1 ++ C2) (hx : OwnX B m W xs sz C1 G1) (hs : OwnX B m W s sz C2 G2) (hm : ∀ o, m g o = none) :
    OwnV B m W (.on xs s e sz b) (.slice (some ⟨g, 0, none⟩) xs.length cap) (g :: (G1 ++ G2)) := by
  refine ⟨h0, some ⟨g, 0, none⟩, cap, C1, C2, G1, G2, rfl, ⟨?_, .inr ⟨g, cap, cur, rfl, hB, hg, hcap, hcm, hcs, htk⟩⟩, hx, hs, rfl, fun g' hg' o => ?_⟩
  · rw [List.length_append, hx.length, hs.length, Nat.add_mul]
  · simp [Value.ownBlock] at hg'
    rw [hg']; exact hm o
end

/-! ### The object -/
theorem OInv.treBlk {B : Nat} {E : Env} {W : World} {k : Nat} {xs s : List (List PS)} {e : TypeId} {sz by_ : Nat} {t : Option (Nat × Nat × Nat × List PS)} (h : OInv B E W k (.tre xs s e sz by_ t)) :
    (E.ov k = .slice none 0 0 ∧ xs = [] ∧ s = [] ∧ E.bl k = [] ∧ 0 < sz) ∨ ∃ cap cur C1 C2 G1 G2, E.ov k = .slice (some ⟨E.ρ k, 0, none⟩) xs.length cap ∧ W.heap[E.ρ k]? = some (.cells cur e (0, 0)) ∧ xs.length + s.length ≤ cap ∧ cap ≤ maxLen ∧ cur.size = cap * sz ∧ B ≤ E.ρ k ∧
      cur.toList.take ((xs.length + s.length) * sz) = C1 ++ C2 ∧ OwnX B E.μ W xs sz C1 G1 ∧ OwnX B E.μ W s sz C2 G2 ∧ E.bl k = E.ρ k :: (G1 ++ G2) ∧ 0 < sz ∧ ∀ o, E.μ (E.ρ k) o = none := by
  obtain ⟨⟨h0, ad, cap, C1, C2, G1, G2, hw, h1, h2, h3, h4, h5⟩, hnd, hρ, _⟩ := h
  rcases h1.2 with ⟨hv, hn⟩ | ⟨g, cap', cur, hv, hB, hg, hnc, hcm, hcs, htake⟩
  · simp only [Value.slice.injEq] at hv
    obtain ⟨rfl, _, rfl⟩ := hv
    have e1 : xs = [] := List.eq_nil_of_length_eq_zero (by omega)
    have e2 : s = [] := List.eq_nil_of_length_eq_zero (by omega)
    subst e1; subst e2
    refine .inl ⟨hw, rfl, rfl, ?_, h0⟩
    rw [h4, hw, h2.2, h3.2]; rfl
  · simp only [Value.slice.injEq] at hv
    obtain ⟨rfl, _, rfl⟩ := hv
    have hb : (E.ov k).ownBlock = some g := by rw [hw]; rfl
    have eg := hρ g hb
    subst eg
    refine .inr ⟨cap, cur, C1, C2, G1, G2, hw, hg, hnc, hcm, hcs, hB, htake, h2, h3, ?_, h0, fun o => h5 _ (by rw [hb]; simp) o⟩
    rw [h4, hb]; rfl

theorem OInv.treMu {B : Nat} {E : Env} {W : World} {k : Nat} {xs s : List (List PS)} {e : TypeId} {sz by_ : Nat} {t : Option (Nat × Nat × Nat × List PS)} (h : OInv B E W k (.tre xs s e sz by_ t)) : ∀ g ∈ E.bl k, ∀ o, E.μ g o = none := fun g hg => (OwnV.lt h.1 g hg).2

section
variable {B : Nat} {E : Env} {ob : List Ob} {W W' : World} {k : Nat} {xs s xs' s' : List (List PS)} {e : TypeId} {sz by_ : Nat} {t : Option (Nat × Nat × Nat × List PS)} {row : Option Nat} {F' : List Nat}

/-- Its rows turn; it stays where it is. -/
theorem Inv.trePut (h : Inv B E ob W) (hk : ob[k]? = some (.tre xs s e sz by_ t)) (hg : W.grownBy W' row) (hrow : ∀ g, row = some g → g ∈ E.bl k) (hv : OwnV B E.μ W' (.on xs' s' e sz by_) (E.ov k) F') (hnd : F'.Nodup)
    (hF : ∀ g ∈ F', g ∈ E.bl k ∨ ∀ j oj, j ≠ k → ob[j]? = some oj → ¬ Wb E j oj g) :
    E.le (E.bls k F') ∧ Inv B (E.bls k F') (ob.set k (.tre xs' s' e sz by_ none)) W' := by
  have hlt := (List.getElem?_eq_some_iff.1 hk).1
  have ho := h.obs k _ hk
  have hle := E.le_bls k F'
  refine ⟨hle, h.change (k := k) (o' := .tre xs' s' e sz by_ none) (row := row) idS (hle.but k) (by simp [Env.bls, h.n]) (fun q oq hq hoq => ⟨oq, ?_, by cases oq <;> rfl⟩) (by simp [hlt]) (idS_ok hle) hg
    (show OInv B _ W' k (.tre xs' s' e sz by_ none) from by
      refine ⟨?_, ?_, ho.2.2.1, fun _ _ _ _ e => by cases e⟩
      · simp only [Env.bls, if_true]; exact hv
      · simp only [Env.bls, if_true]; exact hnd)
    (fun b o w hm => ?_) (fun b o w hm => .inl hm) (fun g eg q oq hq hoq hw => ?_) (fun g hg' q oq hq hoq hw => ?_) (fun q _ hq => if_neg hq)⟩
  · rw [List.getElem?_set_ne (Ne.symm hq)] at hoq; exact hoq
  · refine hg.cell (h.mu b o w hm) fun e' => ?_
    have hm' : E.μ b o = some w := hm
    rw [ho.treMu b (hrow b e'.symm) o] at hm'
    cases hm'
  · exact h.apart k q _ oq g (Ne.symm hq) hk hoq (hrow g eg) hw
  · simp only [Wb, Env.bls, if_true] at hg'
    rcases hF g hg' with hF | hF
    · exact h.apart k q _ oq g (Ne.symm hq) hk hoq hF hw
    · exact hF q oq hq hoq hw

/-- Another slice comes in its place; other sights of it are forgotten (sw says how). -/
theorem Inv.treTurnG {e' : TypeId} {sz' by' : Nat} {v' : Value} {ob2 : List Ob} (sw : Sw) (hsw : ∀ E', E.leBut k E' → sw.Ok E E') (hl2 : ob2.length = ob.length) (hob2 : ∀ j : Nat, ob2[j]? = (ob[j]?).map fun o : Ob => o.map sw) (h : Inv B E ob W) (hk : ob[k]? = some (.tre xs s e sz by_ t)) (hg : W.grownBy W' row) (hrow : ∀ g, row = some g → g ∈ E.bl k) (hv : OwnV B E.μ W' (.on xs' s' e' sz' by') v' F') (hnd : F'.Nodup)
    (hF : ∀ g ∈ F', g ∈ E.bl k ∨ ∀ j oj, j ≠ k → ob[j]? = some oj → ¬ Wb E j oj g) :
    ∃ E', E.leBut k E' ∧ E'.n = E.n ∧ E'.μ = E.μ ∧ E'.ov k = v' ∧ Inv B E' (ob2.set k (.tre xs' s' e' sz' by' none)) W' := by
  have hlt := (List.getElem?_eq_some_iff.1 hk).1
  have ho := h.obs k _ hk
  have hE : E.leBut k { n := E.n, ρ := fun j => if j = k then v'.ownBlock.getD 0 else E.ρ j, ov := fun j => if j = k then v' else E.ov j, bl := fun j => if j = k then F' else E.bl j, μ := E.μ, gok := E.gok } :=
    ⟨Nat.le_refl _, fun j _ hj => by simp [hj], fun j _ hj => by simp [hj], Mem.le_refl _⟩
  refine ⟨_, hE, rfl, rfl, by simp, ?_⟩
  refine h.change (k := k) (o' := .tre xs' s' e' sz' by' none) (row := row) sw hE (by simp [hl2, h.n]) (fun j oj' hj hoj => ?_) (by simp [hl2, hlt]) (hsw _ hE) hg
    (show OInv B _ W' k (.tre xs' s' e' sz' by' none) from by
      refine ⟨?_, ?_, fun g hgk => ?_, fun _ _ _ _ e => by cases e⟩
      · simp only [if_true]; exact hv
      · simp only [if_true]; exact hnd
      · simp only [if_true] at hgk ⊢; rw [hgk]; rfl)
    (fun b o w hm => ?_) (fun b o w hm => .inl hm) (fun g eg q oq hq hoq hw => ?_) (fun g hg' q oq hq hoq hw => ?_) (fun q _ hq => if_neg hq)
  · rw [List.getElem?_set_ne (Ne.symm hj), hob2, Option.map_eq_some_iff] at hoj
    obtain ⟨oj, h6, h7⟩ := hoj
    exact ⟨oj, h6, h7.symm⟩
  · refine hg.cell (h.mu b o w hm) fun e' => ?_
    have hm' : E.μ b o = some w := hm
    rw [ho.treMu b (hrow b e'.symm) o] at hm'
    cases hm'
  · exact h.apart k q _ oq g (Ne.symm hq) hk hoq (hrow g eg) hw
  · simp only [Wb, if_true] at hg'
    rcases hF g hg' with hF | hF
    · exact h.apart k q _ oq g (Ne.symm hq) hk hoq hF hw
    · exact hF q oq hq hoq hw

theorem Inv.treTurn {e' : TypeId} {sz' by' : Nat} {v' : Value} (h : Inv B E ob W) (hk : ob[k]? = some (.tre xs s e sz by_ t)) (hg : W.grownBy W' row) (hrow : ∀ g, row = some g → g ∈ E.bl k) (hv : OwnV B E.μ W' (.on xs' s' e' sz' by') v' F') (hnd : F'.Nodup)
    (hF : ∀ g ∈ F', g ∈ E.bl k ∨ ∀ j oj, j ≠ k → ob[j]? = some oj → ¬ Wb E j oj g) :
    ∃ E', E.leBut k E' ∧ E'.n = E.n ∧ E'.μ = E.μ ∧ E'.ov k = v' ∧ Inv B E' ((sweepO k ob).set k (.tre xs' s' e' sz' by' none)) W' :=
  h.treTurnG (swS k) (fun _ h => swS_ok h) (sweepO_length k ob) (sweepO_get k ob) hk hg hrow hv hnd hF
end

/-- The same, the old slice's length remembered. -/
def sweepOA (k : Nat) (xs : List (List PS)) : List Ob → List Ob
  | [] => []
  | o :: l => o.map (swSA k xs) :: sweepOA k xs l

theorem sweepOA_length (k : Nat) (xs : List (List PS)) : ∀ l : List Ob, (sweepOA k xs l).length = l.length
  | [] => rfl
  | _ :: l => by simp [sweepOA, sweepOA_length k xs l]

theorem sweepOA_get (k : Nat) (xs : List (List PS)) : ∀ (l : List Ob) (j : Nat), (sweepOA k xs l)[j]? = (l[j]?).map fun o : Ob => o.map (swSA k xs)
  | [], j => by simp [sweepOA]
  | o :: l, 0 => by simp [sweepOA]
  | o :: l, j + 1 => by simp [sweepOA, sweepOA_get k xs l j]

/-! ### Objects let go -/
theorem Inv.gone {B : Nat} {E : Env} {ob : List Ob} {W : World} {k : Nat} (h : Inv B E ob W) : Inv B E (ob.set k .gone) W := by
  by_cases hlt : k < ob.length
  · refine h.change (k := k) (o' := .gone) (row := none) idS ((Env.le_refl E).but k) (by simp [h.n]) (fun r orr hr hor => ⟨orr, ?_, by cases orr <;> rfl⟩) (by simp [hlt]) (idS_ok (Env.le_refl _)) (grownBy_refl _ _)
      trivial h.mu (fun b o w hm => .inl hm) (fun g e => by cases e) (fun g hg => by cases hg)
    rw [List.getElem?_set_ne (Ne.symm hr)] at hor; exact hor
  · rw [List.set_eq_of_length_le (by omega)]; exact h

def goneAll (ob : List Ob) : List Nat → List Ob
  | [] => ob
  | k :: l => goneAll (ob.set k .gone) l

theorem Inv.goneAll {B : Nat} {E : Env} {W : World} : ∀ {ks : List Nat} {ob : List Ob}, Inv B E ob W → Inv B E (goneAll ob ks) W
  | [], _, h => h
  | k :: l, ob, h => Inv.goneAll (ks := l) h.gone

theorem goneAll_get : ∀ {ks : List Nat} {ob : List Ob} {j : Nat} {o : Ob}, (goneAll ob ks)[j]? = some o → o = .gone ∨ (j ∉ ks ∧ ob[j]? = some o)
  | [], ob, j, o, h => .inr ⟨by simp, h⟩
  | k :: l, ob, j, o, h => by
    rcases goneAll_get (ks := l) h with h | ⟨h1, h2⟩
    · exact .inl h
    · rw [List.getElem?_set] at h2
      split at h2
      · split at h2
        · cases h2; exact .inl rfl
        · cases h2
      · rename_i hne
        exact .inr ⟨by simp [h1]; exact fun e => hne e.symm, h2⟩

theorem goneAll_free {B : Nat} {E : Env} {ob : List Ob} {W : World} {ks : List Nat} (h : Inv B E ob W) (ha : Arrs ob ks) : Free E (goneAll ob ks) (blks ob E ks) := fun g hg j oj hoj hw => by
  obtain ⟨k, hk, hgk⟩ := mem_blks hg
  obtain ⟨o, h1, h2⟩ := ha.wb hk hgk
  rcases goneAll_get hoj with rfl | ⟨h3, h4⟩
  · cases hw
  · exact h.apart k j o oj g (fun e => h3 (e ▸ hk)) h1 h4 h2 hw

/-- Nil slices known to be nil. -/
def zxRow : List Seg → List Seg
  | [] => []
  | .c .nil :: l => .c (.p (.v (.slice none 0 0))) :: zxRow l
  | x :: l => x :: zxRow l

theorem zxRow_spec {E : Env} : ∀ {row : List Seg} {ws : List Value}, RepG E row ws → RepG E (zxRow row) ws
  | [], _, h => h
  | .c x :: l, _, ⟨w, ws', e, hv, hr⟩ => by
    cases x <;> first | exact ⟨w, ws', e, hv, zxRow_spec hr⟩ | exact ⟨w, ws', e, ⟨hv, rfl⟩, zxRow_spec hr⟩
  | .r _ _ :: l, _, ⟨hl, ho, ws', e, hr⟩ => ⟨hl, ho, ws', e, zxRow_spec hr⟩

/-- A row whose own slices are laid somewhere: what stands in it, the objects, those that are let go. -/
def moveRow (ar : Ar) (ob : List Ob) (row : List Seg) : Option (List PS × List Ob) :=
  match keepRow ar ob (zxRow row) with
  | some (row', ob1) => match handL ob1 row' with
    | some (ps, ks) => match nodupB ks with
      | true => some (ps, goneAll ob1 ks)
      | false => none
    | none => none
  | none => none

theorem moveRow_spec {B : Nat} {E : Env} {ob ob' : List Ob} {W : World} {row : List Seg} {ws : List Value} {ps : List PS} (h : Inv B E ob W) (hr : RepG E row ws) (hu : moveRow arS ob row = some (ps, ob')) :
    ∃ E' F, Ext B E E' ∧ Inv B E' ob' W ∧ OwnL B E'.μ W ps ws F ∧ F.Nodup ∧ Free E' ob' F := by
  unfold moveRow at hu
  split at hu
  · rename_i row' ob1 hk
    split at hu
    · rename_i qs ks hh
      split at hu
      · rename_i hnd
        cases hu
        obtain ⟨E', e1, i1, r1⟩ := keepRow_spec h (zxRow_spec hr) hk
        obtain ⟨a1, b1⟩ := handL_spec i1 r1 hh
        exact ⟨E', _, e1, i1.goneAll, a1, blks_nodup i1 (nodupB_spec hnd) b1, goneAll_free i1 b1⟩
      · cases hu
    · cases hu
  · cases hu

end Go.Eng
