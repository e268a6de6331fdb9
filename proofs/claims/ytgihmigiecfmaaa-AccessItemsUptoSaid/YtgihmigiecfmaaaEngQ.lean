/-
  Own slices lent to a call that only reads; own slices whose rows hold own slices, to any depth.
-/
import Derived.Test.YtgihmigiecfmaaaEngN2
namespace Go.Eng
open Go Go.RowKit
set_option linter.unusedVariables false

theorem rlen_frzL : ∀ row : List PS, rlen (frzL row) = rlen row
  | [] => rfl
  | .c x :: l => by simp only [frzL, rlen, PS.len, rlen_frzL l]
  | .r n ws :: l => by simp only [frzL, rlen, PS.len, rlen_frzL l]

theorem frzX_length : ∀ xs : List (List PS), (frzX xs).length = xs.length
  | [] => rfl
  | x :: l => by simp only [frzX, List.length_cons, frzX_length l]

theorem frzX_map : ∀ xs : List (List PS), frzX xs = xs.map frzL
  | [] => rfl
  | x :: l => by simp only [frzX, List.map_cons, frzX_map l]

theorem ownsRow_E {B : Nat} {m : Mem} {W : World} {xs : List (List PS)} {e : TypeId} {sz n : Nat} {w : Value} {C : List Value} (hm : Mem.le m (memOf W)) (h1 : W.ownsRow B e sz w n C) (hX : RepX m xs sz C) :
    ∀ g, w.ownBlock = some g → RepE (memOf W) xs g 0 sz := fun g hg => by
  refine RepX.toE (hX.mono hm) fun j u hj => ?_
  have := h1.cells hg j u hj
  rw [Addr.add_mid, Nat.zero_add] at this
  rw [Nat.zero_add]
  exact this

section
variable {B : Nat} {m : Mem} {W : World}
mutual
theorem OwnV.frz (hm : Mem.le m (memOf W)) : ∀ {x : PV} {w : Value} {F : List Nat}, OwnV B m W x w F → RepV (memOf W) (frzV x) w
  | .v x, w, F, h => by simp only [frzV]; exact RepV.mono hm _ _ h.2
  | .sl xs s, w, F, h => by simp only [frzV]; exact RepV.mono hm _ _ h.2
  | .ow xs e sz by_, w, F, h => by
    obtain ⟨h0, _, _, _, C, h1, h2⟩ := h
    simp only [frzV, RepV, RepE, and_true]
    rcases h1.2 with ⟨hv, hn⟩ | ⟨g, cap, cur, hv, hg, hh, hnc, _⟩
    · exact ⟨none, 0, by rw [hv, hn], by simp [hn], .inl (List.eq_nil_of_length_eq_zero hn)⟩
    · exact ⟨some ⟨g, 0, none⟩, cap, hv, by simpa using hnc, .inr ⟨g, 0, sz, rfl, ownsRow_E hm h1 h2 g (by rw [hv]; rfl)⟩⟩
  | .on xs s e sz by_, w, F, h => by
    obtain ⟨h0, ad, cap, C1, C2, G1, G2, hw, h1, h2, h3, _⟩ := h
    have k1 := OwnX.frz hm h2
    have k2 := OwnX.frz hm h3
    have l1 := k1.length
    rw [frzX_length] at l1
    simp only [frzV, RepV]
    refine ⟨ad, cap, by rw [frzX_length]; exact hw, ?_, ?_⟩
    · rw [frzX_length, frzX_length]
      rcases h1.2 with ⟨hv, hn⟩ | ⟨g, cap', cur, hv, hg, hh, hnc, _⟩
      · omega
      · simp only [Value.slice.injEq] at hv; omega
    · rcases h1.2 with ⟨hv, hn⟩ | ⟨g, cap', cur, hv, hg, hh, hnc, hcm, hcs, htake⟩
      · refine .inl ⟨List.eq_nil_of_length_eq_zero ?_, List.eq_nil_of_length_eq_zero ?_⟩
        · rw [frzX_length]; omega
        · rw [frzX_length]; omega
      · simp only [Value.slice.injEq] at hv
        obtain ⟨rfl, _, rfl⟩ := hv
        have hc := h1.cells (g := g) rfl
        refine .inr ⟨g, 0, sz, rfl, ?_, ?_⟩
        · refine RepX.toE k1 fun j u hj => ?_
          have := hc j u (by rw [List.getElem?_append_left (List.getElem?_eq_some_iff.1 hj).1]; exact hj)
          rw [Addr.add_mid, Nat.zero_add] at this
          rw [Nat.zero_add]; exact this
        · refine RepX.toE k2 fun j u hj => ?_
          have := hc (C1.length + j) u (by rw [List.getElem?_append_right (by omega), Nat.add_sub_cancel_left]; exact hj)
          rw [Addr.add_mid, Nat.zero_add] at this
          rw [Nat.zero_add, frzX_length, ← l1]; exact this
theorem OwnL.frz (hm : Mem.le m (memOf W)) : ∀ {row : List PS} {ws : List Value} {F : List Nat}, OwnL B m W row ws F → RepL (memOf W) (frzL row) ws
  | [], _, _, h => h.1
  | .c x :: l, _, _, ⟨w, ws', F1, F2, e, eF, hv, hr⟩ => ⟨w, ws', e, OwnV.frz hm hv, OwnL.frz hm hr⟩
  | .r _ _ :: l, _, _, ⟨hl, ho, ws', e, hr⟩ => ⟨hl, ho, ws', e, OwnL.frz hm hr⟩
theorem OwnX.frz (hm : Mem.le m (memOf W)) : ∀ {xs : List (List PS)} {sz : Nat} {C : List Value} {F : List Nat}, OwnX B m W xs sz C F → RepX (memOf W) (frzX xs) sz C
  | [], _, _, _, h => h.1
  | x :: l, _, _, _, ⟨w, C', F1, F2, e, eF, hl, hv, hr⟩ => ⟨w, C', e, (rlen_frzL x).trans hl, OwnL.frz hm hv, OwnX.frz hm hr⟩
end
end

/-! ### Lent -/
section
variable {B : Nat} {E : Env} {ob : List Ob} {W : World}

theorem CV.lend0_spec (h : Inv B E ob W) {c : CV} {w : Value} {x : PV} (hk : RepK E c w) (hu : c.lend0 arS ob = some x) : RepV (memOf W) x w := by
  have hm : Mem.le E.μ (memOf W) := h.mu
  unfold CV.lend0 at hu
  split at hu
  · cases hu; exact RepV.mono hm _ _ hk
  · cases hu; rw [show w = _ from hk, RepV]; exact ⟨rfl, rfl⟩
  · cases hu; rw [show w = _ from hk, RepV]; exact ⟨rfl, rfl⟩
  · cases hu; rw [show w = _ from hk]; exact RepV.nil _
  · rename_i k
    split at hu
    · rename_i xs e sz by_ wr hob
      cases hu
      obtain ⟨h0, C, h1, h2, h3⟩ := h.obs k _ hob
      rw [hk.2.1]
      simp only [RepV, RepE, and_true]
      rcases h1.2 with ⟨hv, hn⟩ | ⟨g, cap, cur, hv, hg, hh, hnc, _⟩
      · exact ⟨none, 0, by rw [hv, hn], by simp [hn], .inl (List.eq_nil_of_length_eq_zero hn)⟩
      · exact ⟨some ⟨g, 0, none⟩, cap, hv, by simpa using hnc, .inr ⟨g, 0, sz, rfl, ownsRow_E hm h1 h2 g (by rw [hv]; rfl)⟩⟩
    · rename_i xs s e sz by_ t hob
      cases hu
      have := OwnV.frz hm (h.obs k _ hob).1
      rw [hk.2.1]
      simpa only [frzV, arS] using this
    · cases hu
  · cases hu

theorem lendRow0_spec (h : Inv B E ob W) : ∀ {row : List Seg} {ws : List Value} {ps : List PS}, RepG E row ws → lendRow0 arS ob row = some ps → RepL (memOf W) ps ws
  | [], _, _, hr, hu => by cases hu; exact hr
  | .c x :: l, _, _, ⟨w, ws', e, hv, hr⟩, hu => by
    simp only [lendRow0] at hu
    split at hu
    · rename_i y h1
      split at hu
      · rename_i qs h2
        cases hu
        exact ⟨w, ws', e, CV.lend0_spec h hv h1, lendRow0_spec h hr h2⟩
      · cases hu
    · cases hu
  | .r n us :: l, _, _, ⟨hl, ho, ws', e, hr⟩, hu => by
    simp only [lendRow0] at hu
    split at hu
    · rename_i qs h2
      cases hu
      exact ⟨hl, ho, ws', e, lendRow0_spec h hr h2⟩
    · cases hu

theorem CV.lend_spec (h : Inv B E ob W) {c : CV} {w : Value} {x : PV} (hk : RepK E c w) (hu : c.lend arS ob = some x) : RepV (memOf W) x w := by
  unfold CV.lend at hu
  split at hu
  · rename_i k off n sz
    have fin : ∀ {ps : List PS} {xs : List (List PS)}, RepC (memOf W) ps (E.ρ k) 0 → chunks arS ps off n sz = some xs → RepV (memOf W) (.sl xs []) w := fun {ps xs} hc hx => by
      obtain ⟨hkn, o, cap, hw, hcap, ho⟩ := hk
      have := hc.chunks hx
      rw [RepV]
      refine ⟨some ⟨E.ρ k, o, none⟩, cap, by rw [hw, this.2], by simp [this.2, hcap], ?_⟩
      by_cases h0 : n = 0
      · exact .inl ⟨List.eq_nil_of_length_eq_zero (by rw [this.2, h0]), rfl⟩
      · refine .inr ⟨E.ρ k, o, sz, rfl, ?_, by simp [RepE]⟩
        rw [ho (by omega)]
        simpa using this.1
    split at hu
    · rename_i row hob
      split at hu
      · rename_i ps hps
        split at hu
        · rename_i xs hx
          cases hu
          obtain ⟨h1, ⟨t, ws, h2, h3⟩, h4⟩ := h.obs k _ hob
          refine fin (RepC.of_values (lendRow0_spec h h3 hps) fun j u hj => ?_) hx
          show W.cell? ⟨E.ρ k, 0 + j, none⟩ = some u
          rw [Nat.zero_add, cell_of_row W _ j _ t (0, 0) h2]; simpa using hj
        · cases hu
      · cases hu
    · rename_i ps hob
      split at hu
      · rename_i xs hx
        cases hu
        exact fin (RepC.mono h.mu ps _ _ (h.obs k _ hob)) hx
      · cases hu
    · cases hu
  · exact CV.lend0_spec h hk hu

theorem lendRow_spec (h : Inv B E ob W) : ∀ {row : List Seg} {ws : List Value} {ps : List PS}, RepG E row ws → lendRow arS ob row = some ps → RepL (memOf W) ps ws
  | [], _, _, hr, hu => by cases hu; exact hr
  | .c x :: l, _, _, ⟨w, ws', e, hv, hr⟩, hu => by
    simp only [lendRow] at hu
    split at hu
    · rename_i y h1
      split at hu
      · rename_i qs h2
        cases hu
        exact ⟨w, ws', e, CV.lend_spec h hv h1, lendRow_spec h hr h2⟩
      · cases hu
    · cases hu
  | .r n us :: l, _, _, ⟨hl, ho, ws', e, hr⟩, hu => by
    simp only [lendRow] at hu
    split at hu
    · rename_i qs h2
      cases hu
      exact ⟨hl, ho, ws', e, lendRow_spec h hr h2⟩
    · cases hu

theorem SV.lend_spec (h : Inv B E ob W) {c : SV} {w : Value} {x : PR} (hk : RepS E c w) (hu : c.lend arS ob = some x) : RepR (memOf W) x w := by
  cases c with
  | un => cases hu
  | ud => cases hu
  | t _ => cases hu
  | s c =>
    simp only [SV.lend] at hu
    split at hu
    · rename_i y h1
      cases hu
      exact CV.lend_spec h hk h1
    · cases hu
  | a row =>
    simp only [SV.lend] at hu
    split at hu
    · rename_i y h1
      cases hu
      obtain ⟨ws, e, hr⟩ := hk
      exact ⟨ws, e, lendRow_spec h hr h1⟩
    · cases hu

theorem lendAll_spec (h : Inv B E ob W) : ∀ {xs : List SV} {ws : List Value} {rs : List PR}, RepF E xs ws → lendAll arS ob xs = some rs → RepRs (memOf W) rs ws
  | [], _, _, hr, hu => by cases hu; exact hr
  | x :: l, _, _, ⟨w, ws', e, hv, hr⟩, hu => by
    simp only [lendAll] at hu
    split at hu
    · rename_i y h1
      split at hu
      · rename_i qs h2
        cases hu
        exact ⟨w, ws', e, SV.lend_spec h hv h1, lendAll_spec h hr h2⟩
      · cases hu
    · cases hu
end

end Go.Eng
