/-
  The first rows of an own slice alone: it stays an own one.
-/
import Derived.Test.YtgihmigiecfmaaaEngN
namespace Go.Eng
open Go Go.RowKit

theorem Inv.arrCut {B : Nat} {E : Env} {ob : List Ob} {W : World} {k n : Nat} {xs : List (List PS)} {e : TypeId} {sz bytes : Nat}
    (h : Inv B E ob W) (hk : ob[k]? = some (.arr xs e sz bytes true)) (hn : n ≤ xs.length) :
    ∃ ad cap E', E.ov k = .slice ad xs.length cap ∧ xs.length ≤ cap ∧ E.leBut k E' ∧ E'.n = E.n ∧ Inv B E' ((sweepO k ob).set k (.arr (xs.take n) e sz bytes true)) W ∧ E'.μ = E.μ ∧ E'.ov k = .slice ad n cap := by
  have hlt := (List.getElem?_eq_some_iff.1 hk).1
  obtain ⟨h0, C, h1, h2, h4⟩ := h.obs k _ hk
  have hCl := h2.length
  have hown : ∃ ad cap, E.ov k = .slice ad xs.length cap ∧ xs.length ≤ cap ∧ W.ownsRow B e sz (.slice ad n cap) n (C.take (n * sz)) ∧ (Value.slice ad n cap).ownBlock = (E.ov k).ownBlock := by
    have hlen : (C.take (n * sz)).length = n * sz := by
      rw [List.length_take, hCl, Nat.min_eq_left (Nat.mul_le_mul_right _ hn)]
    rcases h1.2 with ⟨hv, hn0⟩ | ⟨g, cap, cur, hv, r1, r2, r3, r4, r5, r6⟩
    · have : n = 0 := by omega
      subst this
      exact ⟨none, 0, by rw [hv, hn0], by omega, ⟨hlen, .inl ⟨rfl, rfl⟩⟩, by rw [hv]⟩
    · refine ⟨_, cap, hv, r3, ⟨hlen, .inr ⟨g, cap, cur, rfl, r1, r2, by omega, r4, r5, ?_⟩⟩, by rw [hv]; rfl⟩
      rw [← r6, List.take_take, Nat.min_eq_left (Nat.mul_le_mul_right _ hn)]
  obtain ⟨ad, cap, e1, e2, e3, e4⟩ := hown
  have hE : E.leBut k { n := E.n, ρ := E.ρ, ov := fun j => if j = k then .slice ad n cap else E.ov j, bl := E.bl, μ := E.μ, gok := E.gok } :=
    ⟨Nat.le_refl _, fun j _ hj => rfl, fun j _ hj => by simp [hj], Mem.le_refl _⟩
  refine ⟨ad, cap, _, e1, e2, hE, rfl, ?_, rfl, by simp⟩
  refine h.change (k := k) (o' := .arr (xs.take n) e sz bytes true) (row := none) (swS k) hE (by simp [sweepO_length, h.n]) (fun j oj' hj hoj => ?_) (by simp [sweepO_length, hlt]) (swS_ok hE) (grownBy_refl _ _)
    ⟨h0, C.take (n * sz), ?_, h2.take n, fun g hgk => ?_⟩ h.mu (fun b o w hm => .inl hm) (fun g e' => by cases e') (fun g hgk j oj hj hoj hw => ?_)
  · rw [List.getElem?_set_ne (Ne.symm hj), sweepO_get, Option.map_eq_some_iff] at hoj
    obtain ⟨oj, h6, h7⟩ := hoj
    exact ⟨oj, h6, h7.symm⟩
  · simp only [if_true]
    have : (xs.take n).length = n := by simp [hn]
    rw [this]; exact e3
  · simp only [if_true, e4] at hgk ⊢
    obtain ⟨a, b, _⟩ := h4 g hgk
    exact ⟨a, fun o _ => b o (.inl rfl), fun e => by cases e⟩
  · simp only [Wb, if_true, e4] at hgk
    exact h.apart k j _ oj g (Ne.symm hj) hk hoj hgk hw

/-- Is it an own slice that may be written, cut from its start? -/
def cutAt (st : St) (x : SV) : Bool :=
  match x with
  | .s (.own j) => match st.ob[j]? with
    | some (.arr _ _ _ _ true) => true
    | _ => false
  | _ => false

def aCutP (ar : Ar) (st : St) (t : TypeId) (x : SV) (lo hi : Option Operand) (k : SV → St → Prop) : Prop :=
  match lo with
  | none => match bndOf st hi with
    | some (some bh) => match (tt t).d with
      | .slice e => if (tt e).d.ok = true then
          match x with
          | .s (.own j) => match st.ob[j]? with
            | some (.arr xs e' sz by_ true) => (True → 0 ≤ bh.1 ∧ bh.1 ≤ (xs.length : Int)) ∧ k (.s (.own j)) ⟨sweepF j st.fr, (sweepO j st.ob).set j (.arr (ar.mid xs 0 (natB ar bh)) e' sz by_ true)⟩
            | _ => False
          | _ => False
        else False
      | _ => False
    | _ => False
  | some _ => False

theorem aCutP_spec {P : Program} (hT : TTok P) {B : Nat} {W0 : World} {m0 : Mem} {E : Env} {st : St} {a : Act} {W : World} {o : Oper} {t : TypeId} {x : Operand} {lo hi : Option Operand} {k : SV → St → Prop}
    (hS : Sim B W0 m0 E st a W) (ho : o.op = .slice t x lo hi none) (hk : aCutP arS st t (st.ev 0 x) lo hi k) :
    ∃ sv st' E' v, k sv st' ∧ Sim B W0 m0 E' st' a W ∧ (∀ W', (execOp a.eval o).run P W' = .ok (.value v) W') ∧ RepS E' sv v := by
  have hx := RepS.ev hS.fr 0 x
  generalize st.ev 0 x = sx at *
  unfold aCutP at hk
  split at hk
  · split at hk
    · rename_i bh hbh
      have hh := bndOf_spec hS.fr hbh
      split at hk
      · rename_i e hd
        obtain ⟨d, hd1, hd2⟩ := (hT.of_ok (t := t) (by rw [hd]; rfl)).desc
        rw [hd] at hd2
        cases d <;> try exact False.elim hd2
        cases hd2
        split at hk
        · rename_i hok
          obtain ⟨ti, z, hti, hs1, _⟩ := (hT.of_ok hok).info
          split at hk
          · rename_i j
            split at hk
            · rename_i xs e' sz by_ hj
              obtain ⟨hs, hk⟩ := hk
              have hs := hs trivial
              obtain ⟨ad, cap, E', e1, e2, e3, e4, i1, e5, e6⟩ := hS.inv.arrCut (n := bh.1.toNat) hj (by omega)
              have hmid : arS.mid xs 0 (natB arS bh) = xs.take bh.1.toNat := by rw [natB_eq]; simp [arS]
              rw [hmid] at hk
              refine ⟨_, _, E', .slice ad bh.1.toNat cap, hk, ⟨i1, hS.fr.sweep e3, hS.below, by rw [e5]; exact hS.grew, by rw [e5]; exact hS.had, hS.defers⟩, fun W' => ?_, by rw [e4]; exact hx.1, e6.symm, rfl⟩
              have hc : Cuts none (some bh) xs.length cap 0 bh.1.toNat := ⟨rfl, by obtain ⟨q, _⟩ := bh; simp only at *; omega, by omega, by omega, by omega⟩
              have := run_slice_cut (P := P) (ad := ad) (lo := none) W' hd1 hti (vl := none) (show BndIs none none from rfl) hh hc
              have e7 : sliced ad 0 bh.1.toNat cap ti.size = .slice ad bh.1.toNat cap := by
                unfold sliced
                split
                · simp
                · cases ad with
                  | none => simp
                  | some A => cases A; simp [Addr.add]
              rw [e7] at this
              unfold execOp
              simp only [ho, hx.2.1, e1, Option.map_none]
              simp [this]
            · exact hk.elim
          · exact hk.elim
        · exact hk.elim
      · exact hk.elim
    · exact hk.elim
  · exact hk.elim
end Go.Eng
