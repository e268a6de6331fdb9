/-
  The call's own objects (boxes, own slices), what they mean in the model's memory, and how that stands behind each change of it.
-/
import Derived.Test.YtgihmigiecfmaaaEngA
namespace Go.Eng
open Go Go.RowKit

/-- An object of the call's own: a variable's box, a box that is written no more, an own slice (its element's type, cells, bytes; may its elements be written?), an own slice whose rows hold own slices (lent: row, cell, the object whose very value stands there, the row). -/
inductive Ob where
  | gone
  | box (row : List Seg)
  | fbox (row : List PS)
  | hid (fr : List SV) (vs : List Value)
  | wld (H : Nat → Option Obj)
  | arr (xs : List (List PS)) (e : TypeId) (sz bytes : Nat) (wr : Bool)
  | nest (xs : List (List PS)) (e : TypeId) (sz bytes : Nat) (lent : Option (Nat × Nat × Nat × List PS))
  | tre (xs s : List (List PS)) (e : TypeId) (sz bytes : Nat) (lent : Option (Nat × Nat × Nat × List PS))

def RepX (m : Mem) : List (List PS) → Nat → List Value → Prop
  | [], _, C => C = []
  | x :: xs, sz, C => ∃ w C', C = w ++ C' ∧ rlen x = sz ∧ RepL m x w ∧ RepX m xs sz C'

theorem RepX.mono {m m' : Mem} (h : Mem.le m m') : ∀ {xs : List (List PS)} {sz : Nat} {C : List Value}, RepX m xs sz C → RepX m' xs sz C
  | [], _, _, r => r
  | x :: _, _, _, ⟨w, C', e, hl, hw, hr⟩ => ⟨w, C', e, hl, RepL.mono h x w hw, RepX.mono h hr⟩

theorem RepX.length {m : Mem} : ∀ {xs : List (List PS)} {sz : Nat} {C : List Value}, RepX m xs sz C → C.length = xs.length * sz
  | [], _, _, r => by rw [show _ = [] from r]; simp
  | x :: xs, _, _, ⟨w, C', e, hl, hw, hr⟩ => by rw [e, List.length_append, hr.length, hw.length, hl, List.length_cons, Nat.add_mul]; omega

theorem RepX.append {m : Mem} : ∀ {xs ys : List (List PS)} {sz : Nat} {C D : List Value}, RepX m xs sz C → RepX m ys sz D → RepX m (xs ++ ys) sz (C ++ D)
  | [], _, _, _, _, h, k => by rw [show _ = [] from h]; exact k
  | _ :: _, _, _, _, _, ⟨w, C', e, hl, hw, hr⟩, k => by subst e; exact ⟨w, _, by simp, hl, hw, hr.append k⟩

theorem RepX.get {m : Mem} : ∀ {xs : List (List PS)} {sz : Nat} {C : List Value}, RepX m xs sz C → ∀ (i : Nat) (x : List PS), xs[i]? = some x → rlen x = sz ∧ ∃ w, RepL m x w ∧ (C.drop (i * sz)).take sz = w
  | [], _, _, _, i, x, h => by simp at h
  | y :: ys, sz, _, ⟨w, C', e, hl, hw, hr⟩, i, x, h => by
    subst e
    cases i with
    | zero =>
      simp at h; subst h
      refine ⟨hl, w, hw, ?_⟩
      rw [Nat.zero_mul, List.drop_zero, List.take_append_of_le_length (by rw [hw.length]; omega), List.take_of_length_le (by rw [hw.length]; omega)]
    | succ i =>
      simp at h
      obtain ⟨h1, u, h2, h3⟩ := RepX.get hr i x h
      refine ⟨h1, u, h2, ?_⟩
      rw [← h3, Nat.add_mul, Nat.one_mul, List.drop_append, hw.length, hl, show i * sz + sz - sz = i * sz by omega, List.drop_of_length_le (by rw [hw.length]; omega)]
      rfl

/-- Out of memory that never turns. -/
theorem RepE.toX {m : Mem} : ∀ {xs : List (List PS)} {b o sz : Nat}, RepE m xs b o sz → ∃ C : List Value, RepX m xs sz C ∧ ∀ (j : Nat) (w : Value), C[j]? = some w → m b (o + j) = some w
  | [], _, _, _, _ => ⟨[], rfl, by simp⟩
  | x :: xs, b, o, sz, r => by
    simp only [RepE] at r
    obtain ⟨hl, hc, hr⟩ := r
    obtain ⟨w, hw, hm⟩ := hc.values
    obtain ⟨C, hC, hm'⟩ := RepE.toX hr
    refine ⟨w ++ C, ⟨w, C, rfl, hl, hw, hC⟩, fun j u hj => ?_⟩
    have hwl := hw.length
    rw [List.getElem?_append] at hj
    split at hj
    · exact hm j u hj
    · rw [show o + j = o + sz + (j - w.length) by omega]; exact hm' _ u hj

theorem RepX.toE {m : Mem} : ∀ {xs : List (List PS)} {sz b o : Nat} {C : List Value}, RepX m xs sz C → (∀ (j : Nat) (w : Value), C[j]? = some w → m b (o + j) = some w) → RepE m xs b o sz
  | [], _, _, _, _, _, _ => by simp only [RepE]
  | x :: xs, sz, b, o, _, ⟨w, C', e, hl, hw, hr⟩, h => by
    subst e
    simp only [RepE]
    have hwl := hw.length
    refine ⟨hl, RepC.of_values hw fun j u hj => ?_, RepX.toE hr fun j u hj => ?_⟩
    · exact h j u (by rw [List.getElem?_append_left (List.getElem?_eq_some_iff.1 hj).1]; exact hj)
    · rw [show o + sz + j = o + (w.length + j) by omega]
      exact h _ u (by rw [List.getElem?_append_right (by omega), Nat.add_sub_cancel_left]; exact hj)

theorem RepL.all_oneCell {m : Mem} : ∀ {xs : List PS} {ws : List Value}, RepL m xs ws → ∀ w ∈ ws, w.oneCell' = true
  | [], _, r, w, h => by rw [show _ = [] from r] at h; cases h
  | .c _ :: _, _, ⟨u, ws', e, hv, hr⟩, w, h => by
    subst e
    rcases List.mem_cons.1 h with rfl | h
    · exact hv.oneCell
    · exact RepL.all_oneCell hr w h
  | .r _ _ :: _, _, ⟨_, ho, ws', e, hr⟩, w, h => by
    subst e
    rcases List.mem_append.1 h with h | h
    · exact ho w h
    · exact RepL.all_oneCell hr w h

theorem RepX.all_oneCell {m : Mem} : ∀ {xs : List (List PS)} {sz : Nat} {C : List Value}, RepX m xs sz C → ∀ w ∈ C, w.oneCell' = true
  | [], _, _, r, w, h => by rw [show _ = [] from r] at h; cases h
  | _ :: _, _, _, ⟨u, C', e, _, hv, hr⟩, w, h => by
    subst e
    rcases List.mem_append.1 h with h | h
    · exact hv.all_oneCell w h
    · exact RepX.all_oneCell hr w h

mutual
/-- A cell of a row: frozen, or an own slice (F: its blocks). -/
def OwnV (B : Nat) (m : Mem) (W : World) : PV → Value → List Nat → Prop
  | .ow xs e sz _, w, F => 0 < sz ∧ F = w.ownBlock.toList ∧ (∀ g ∈ F, ∀ o, m g o = none) ∧ w.oneCell' = true ∧ ∃ C, W.ownsRow B e sz w xs.length C ∧ RepX m xs sz C
  | .on xs s e sz _, w, F => 0 < sz ∧ ∃ ad cap C1 C2 G1 G2, w = .slice ad xs.length cap ∧ W.ownsRow B e sz (.slice ad (xs.length + s.length) cap) (xs.length + s.length) (C1 ++ C2) ∧
      OwnX B m W xs sz C1 G1 ∧ OwnX B m W s sz C2 G2 ∧ F = w.ownBlock.toList ++ (G1 ++ G2) ∧ ∀ g ∈ w.ownBlock.toList, ∀ o, m g o = none
  | .v x, w, F => F = [] ∧ RepV m (.v x) w
  | .sl xs s, w, F => F = [] ∧ RepV m (.sl xs s) w

def OwnL (B : Nat) (m : Mem) (W : World) : List PS → List Value → List Nat → Prop
  | [], ws, F => ws = [] ∧ F = []
  | .c x :: ps, ws, F => ∃ w ws' F1 F2, ws = w :: ws' ∧ F = F1 ++ F2 ∧ OwnV B m W x w F1 ∧ OwnL B m W ps ws' F2
  | .r n us :: ps, ws, F => us.length = n ∧ (∀ u ∈ us, u.oneCell' = true) ∧ ∃ ws', ws = us ++ ws' ∧ OwnL B m W ps ws' F

/-- Rows with own slices in them. -/
def OwnX (B : Nat) (m : Mem) (W : World) : List (List PS) → Nat → List Value → List Nat → Prop
  | [], _, C, F => C = [] ∧ F = []
  | x :: xs, sz, C, F => ∃ w C' F1 F2, C = w ++ C' ∧ F = F1 ++ F2 ∧ rlen x = sz ∧ OwnL B m W x w F1 ∧ OwnX B m W xs sz C' F2
end

theorem toList_some {α : Type} {o : Option α} {g : α} (h : g ∈ o.toList) : o = some g := by
  cases o with
  | none => simp at h
  | some g' => simp at h; rw [h]

theorem ownBlock_len (ad : Option Addr) (n n' c c' : Nat) : (Value.slice ad n c).ownBlock = (Value.slice ad n' c').ownBlock := by cases ad <;> rfl

section
variable {B : Nat} {m : Mem} {W : World}

mutual
theorem OwnV.lt : ∀ {x : PV} {w : Value} {F : List Nat}, OwnV B m W x w F → ∀ g ∈ F, (B ≤ g ∧ g < W.heap.size) ∧ ∀ o, m g o = none
  | .v x, w, F, h => by simp only [OwnV] at h; rw [h.1]; simp
  | .sl xs s, w, F, h => by simp only [OwnV] at h; rw [h.1]; simp
  | .ow xs e sz by_, w, F, h => by
    simp only [OwnV] at h
    obtain ⟨_, rfl, h3, _, C, h5, _⟩ := h
    exact fun g hg => ⟨h5.lt g (toList_some hg), h3 g hg⟩
  | .on xs s e sz by_, w, F, h => by
    simp only [OwnV] at h
    obtain ⟨_, ad, cap, C1, C2, G1, G2, rfl, h1, h2, h3, rfl, h4⟩ := h
    intro g hg
    rcases List.mem_append.1 hg with hg | hg
    · exact ⟨h1.lt g ((ownBlock_len _ _ _ _ _).trans (toList_some hg)), h4 g hg⟩
    · rcases List.mem_append.1 hg with hg | hg
      · exact OwnX.lt h2 g hg
      · exact OwnX.lt h3 g hg

theorem OwnL.lt : ∀ {row : List PS} {ws : List Value} {F : List Nat}, OwnL B m W row ws F → ∀ g ∈ F, (B ≤ g ∧ g < W.heap.size) ∧ ∀ o, m g o = none
  | [], _, _, h, g, hg => by simp only [OwnL] at h; rw [h.2] at hg; simp at hg
  | .c x :: l, _, _, h, g, hg => by
    simp only [OwnL] at h
    obtain ⟨w, ws', F1, F2, e, eF, hv, hr⟩ := h
    rw [eF] at hg
    rcases List.mem_append.1 hg with hg | hg
    · exact OwnV.lt hv g hg
    · exact OwnL.lt hr g hg
  | .r _ _ :: l, _, _, h, g, hg => by
    simp only [OwnL] at h
    obtain ⟨hl, ho, ws', e, hr⟩ := h
    exact OwnL.lt hr g hg

theorem OwnX.lt : ∀ {xs : List (List PS)} {sz : Nat} {C : List Value} {F : List Nat}, OwnX B m W xs sz C F → ∀ g ∈ F, (B ≤ g ∧ g < W.heap.size) ∧ ∀ o, m g o = none
  | [], _, _, _, h, g, hg => by simp only [OwnX] at h; rw [h.2] at hg; simp at hg
  | x :: l, _, _, _, h, g, hg => by
    simp only [OwnX] at h
    obtain ⟨w, C', F1, F2, e, eF, hl, hv, hr⟩ := h
    rw [eF] at hg
    rcases List.mem_append.1 hg with hg | hg
    · exact OwnL.lt hv g hg
    · exact OwnX.lt hr g hg
end

variable {m' : Mem} {W' : World} {row : Option Nat}

mutual
theorem OwnV.keep (hμ : Mem.le m m') (hg : W.grownBy W' row) : ∀ {x : PV} {w : Value} {F : List Nat}, (∀ g ∈ F, some g ≠ row) → (∀ g ∈ F, ∀ o, m' g o = none) → OwnV B m W x w F → OwnV B m' W' x w F
  | .v x, w, F, _, _, h => by simp only [OwnV] at h ⊢; exact ⟨h.1, RepV.mono hμ _ _ h.2⟩
  | .sl xs s, w, F, _, _, h => by simp only [OwnV] at h ⊢; exact ⟨h.1, RepV.mono hμ _ _ h.2⟩
  | .ow xs e sz by_, w, F, hne, hnew, h => by
    simp only [OwnV] at h ⊢
    obtain ⟨h1, h2, _, h4, C, h5, h6⟩ := h
    refine ⟨h1, h2, hnew, h4, C, h5.kept hg ?_, h6.mono hμ⟩
    cases hb : w.ownBlock with
    | none => exact .inl rfl
    | some g => exact .inr (hne g (by rw [h2, hb]; simp))
  | .on xs s e sz by_, w, F, hne, hnew, h => by
    simp only [OwnV] at h ⊢
    obtain ⟨h0, ad, cap, C1, C2, G1, G2, rfl, h1, h2, h3, rfl, h4⟩ := h
    refine ⟨h0, ad, cap, C1, C2, G1, G2, rfl, h1.kept hg ?_, OwnX.keep hμ hg (fun g hg => hne g (List.mem_append_right _ (List.mem_append_left _ hg))) (fun g hg => hnew g (List.mem_append_right _ (List.mem_append_left _ hg))) h2,
      OwnX.keep hμ hg (fun g hg => hne g (List.mem_append_right _ (List.mem_append_right _ hg))) (fun g hg => hnew g (List.mem_append_right _ (List.mem_append_right _ hg))) h3, rfl, fun g hg => hnew g (List.mem_append_left _ hg)⟩
    cases ad with
    | none => exact .inl rfl
    | some A => exact .inr (hne A.block (List.mem_append_left _ (by simp [Value.ownBlock])))

theorem OwnL.keep (hμ : Mem.le m m') (hg : W.grownBy W' row) : ∀ {r : List PS} {ws : List Value} {F : List Nat}, (∀ g ∈ F, some g ≠ row) → (∀ g ∈ F, ∀ o, m' g o = none) → OwnL B m W r ws F → OwnL B m' W' r ws F
  | [], _, _, _, _, h => by simp only [OwnL] at h ⊢; exact h
  | .c x :: l, _, _, hne, hnew, h => by
    simp only [OwnL] at h ⊢
    obtain ⟨w, ws', F1, F2, e, eF, hv, hr⟩ := h
    subst eF
    exact ⟨w, ws', F1, F2, e, rfl, OwnV.keep hμ hg (fun g hg => hne g (List.mem_append_left _ hg)) (fun g hg => hnew g (List.mem_append_left _ hg)) hv,
      OwnL.keep hμ hg (fun g hg => hne g (List.mem_append_right _ hg)) (fun g hg => hnew g (List.mem_append_right _ hg)) hr⟩
  | .r _ _ :: l, _, _, hne, hnew, h => by
    simp only [OwnL] at h ⊢
    obtain ⟨hl, ho, ws', e, hr⟩ := h
    exact ⟨hl, ho, ws', e, OwnL.keep hμ hg hne hnew hr⟩

theorem OwnX.keep (hμ : Mem.le m m') (hg : W.grownBy W' row) : ∀ {xs : List (List PS)} {sz : Nat} {C : List Value} {F : List Nat}, (∀ g ∈ F, some g ≠ row) → (∀ g ∈ F, ∀ o, m' g o = none) → OwnX B m W xs sz C F → OwnX B m' W' xs sz C F
  | [], _, _, _, _, _, h => by simp only [OwnX] at h ⊢; exact h
  | x :: l, _, _, _, hne, hnew, h => by
    simp only [OwnX] at h ⊢
    obtain ⟨w, C', F1, F2, e, eF, hl, hv, hr⟩ := h
    subst eF
    exact ⟨w, C', F1, F2, e, rfl, hl, OwnL.keep hμ hg (fun g hg => hne g (List.mem_append_left _ hg)) (fun g hg => hnew g (List.mem_append_left _ hg)) hv,
      OwnX.keep hμ hg (fun g hg => hne g (List.mem_append_right _ hg)) (fun g hg => hnew g (List.mem_append_right _ hg)) hr⟩
end
end

/-- The blocks that the object may write. -/
def Wb (E : Env) (k : Nat) : Ob → Nat → Prop
  | .box _, g => E.ρ k = g
  | .arr .., g => (E.ov k).ownBlock = some g
  | .nest .., g => (E.ov k).ownBlock = some g ∨ g ∈ E.bl k
  | .tre .., g => g ∈ E.bl k
  | .wld H, g => ∃ c, H g = some c
  | _, _ => False

def OInv (B : Nat) (E : Env) (W : World) (k : Nat) : Ob → Prop
  | .gone => True
  | .box row => B ≤ E.ρ k ∧ (∃ t ws, W.heap[E.ρ k]? = some (.cells (List.toArray ws) t (0, 0)) ∧ RepG E row ws) ∧ ∀ o, E.μ (E.ρ k) o = none
  | .fbox row => RepC E.μ row (E.ρ k) 0
  | .hid fr vs => RepF E fr vs
  | .wld H => B = 0 ∧ ∀ g c, H g = some c → W.heap[g]? = some c
  | .arr xs e sz _ wr => 0 < sz ∧ ∃ C, W.ownsRow B e sz (E.ov k) xs.length C ∧ RepX E.μ xs sz C ∧
      ∀ g, (E.ov k).ownBlock = some g → g = E.ρ k ∧ (∀ o, wr = true ∨ C.length ≤ o → E.μ g o = none) ∧ (wr = false → ∀ (j : Nat) (w : Value), C[j]? = some w → E.μ g j = some w)
  | .nest xs e sz _ lent => 0 < sz ∧ ∃ C, W.ownsRow B e sz (E.ov k) xs.length C ∧ OwnX B E.μ W xs sz C (E.bl k) ∧ (E.bl k).Nodup ∧
      (∀ g, (E.ov k).ownBlock = some g → g = E.ρ k ∧ g ∉ E.bl k ∧ ∀ o, E.μ g o = none) ∧
      ∀ i off k' row, lent = some (i, off, k', row) → off < sz ∧ k' < E.n ∧ C[i * sz + off]? = some (E.ov k') ∧ xs[i]? = some row
  | .tre xs s e sz b lent => OwnV B E.μ W (.on xs s e sz b) (E.ov k) (E.bl k) ∧ (E.bl k).Nodup ∧ (∀ g, (E.ov k).ownBlock = some g → g = E.ρ k) ∧
      ∀ i off k' row, lent = some (i, off, k', row) → off < sz ∧ k' < E.n ∧ xs[i]? = some row ∧ E.ρ k ∈ E.bl k ∧ W.cell? ⟨E.ρ k, i * sz + off, none⟩ = some (E.ov k')

theorem OInv.wlt {B : Nat} {E : Env} {W : World} {k : Nat} {o : Ob} {g : Nat} (h : OInv B E W k o) (hw : Wb E k o g) : B ≤ g ∧ g < W.heap.size := by
  cases o with
  | gone => cases hw
  | fbox _ => cases hw
  | hid _ _ => cases hw
  | box row =>
    simp only [Wb] at hw
    subst hw
    obtain ⟨h1, ⟨t, ws, h2, _⟩, _⟩ := h
    exact ⟨h1, (Array.getElem?_eq_some_iff.1 h2).1⟩
  | arr xs e sz by_ wr =>
    obtain ⟨_, C, h1, _⟩ := h
    exact h1.lt g hw
  | nest xs e sz by_ lent =>
    obtain ⟨_, C, h1, h2, _⟩ := h
    rcases hw with hw | hw
    · exact h1.lt g hw
    · exact (h2.lt g hw).1
  | tre xs s e sz by_ lent => exact (OwnV.lt h.1 g hw).1
  | wld H =>
    obtain ⟨c, hc⟩ := hw
    exact ⟨by rw [h.1]; exact Nat.zero_le _, (Array.getElem?_eq_some_iff.1 (h.2 g c hc)).1⟩

/-- What a change makes of the rows and frames that name objects. -/
structure Sw where
  g : List Seg → List Seg
  h : List SV → List SV
  l : Option (Nat × Nat × Nat × List PS) → Option (Nat × Nat × Nat × List PS)

structure Sw.Ok (s : Sw) (E E' : Env) : Prop where
  g : ∀ r ws, RepG E r ws → RepG E' (s.g r) ws
  h : ∀ r ws, RepF E r ws → RepF E' (s.h r) ws
  l : ∀ t i off k r, s.l t = some (i, off, k, r) → t = some (i, off, k, r) ∧ (k < E.n → k < E'.n ∧ E'.ov k = E.ov k)

def idS : Sw := ⟨id, id, id⟩
def swL (k : Nat) : Option (Nat × Nat × Nat × List PS) → Option (Nat × Nat × Nat × List PS)
  | some (i, off, j, r) => if j = k then none else some (i, off, j, r)
  | none => none
def swS (k : Nat) : Sw := ⟨sweeps k, sweepF k, swL k⟩

theorem idS_ok {E E' : Env} (h : E.le E') : idS.Ok E E' := ⟨fun _ _ r => r.mono h, fun _ _ r => r.mono h, fun _ _ _ k _ e => ⟨e, fun hk => ⟨Nat.lt_of_lt_of_le hk h.n, h.ov k hk⟩⟩⟩
theorem swS_ok {E E' : Env} {k : Nat} (h : E.leBut k E') : (swS k).Ok E E' := ⟨fun _ _ r => r.sweep h, fun _ _ r => r.sweep h, fun t i off j r e => by
  simp only [swS, swL] at e
  split at e
  · split at e
    · cases e
    · rename_i hne
      cases e
      exact ⟨rfl, fun hk => ⟨Nat.lt_of_lt_of_le hk h.n, h.ov j hk hne⟩⟩
  · cases e⟩

def swSA (k : Nat) (xs : List (List PS)) : Sw := ⟨sweepsA k xs, sweepFA k xs, swL k⟩

def Ob.map (f : Sw) : Ob → Ob
  | .box row => .box (f.g row)
  | .hid fr vs => .hid (f.h fr) vs
  | .nest xs e sz by_ t => .nest xs e sz by_ (f.l t)
  | .tre xs s e sz by_ t => .tre xs s e sz by_ (f.l t)
  | o => o

theorem swSA_ok {E E' : Env} {k : Nat} {xs : List (List PS)} (h : E.leBut k E') (hx : ∃ ad cap, E.ov k = .slice ad xs.length cap) : (swSA k xs).Ok E E' := ⟨fun _ _ r => r.sweepA h hx, fun _ _ r => r.sweepA h hx, (swS_ok h).l⟩

theorem Wb_map {E : Env} {k : Nat} {o : Ob} (f : Sw) : Wb E k (o.map f) = Wb E k o := by cases o <;> rfl

theorem Wb_same {E E' : Env} {k : Nat} {o : Ob} (hρ : E'.ρ k = E.ρ k) (hv : E'.ov k = E.ov k) (hb : E'.bl k = E.bl k) : Wb E' k o = Wb E k o := by funext g; cases o <;> simp [Wb, hρ, hv, hb]

theorem OInv.keep {B : Nat} {E E' : Env} {W W' : World} {k : Nat} {o : Ob} {row : Option Nat} (f : Sw) (h : OInv B E W k o) (hρ : E'.ρ k = E.ρ k) (hv : E'.ov k = E.ov k) (hbl : E'.bl k = E.bl k) (hμ : Mem.le E.μ E'.μ)
    (hnew : ∀ g, Wb E k o g → ∀ i, E.μ g i = none → E'.μ g i = none) (hG : f.Ok E E') (hg : W.grownBy W' row) (hne : ∀ g, Wb E k o g → some g ≠ row) : OInv B E' W' k (o.map f) := by
  cases o with
  | gone => trivial
  | fbox r => simp only [Ob.map, OInv] at h ⊢; rw [hρ]; exact RepC.mono hμ r _ _ h
  | hid fr vs => exact hG.h fr vs h
  | wld H => exact ⟨h.1, fun g c hc => (hg.block g (Array.getElem?_eq_some_iff.1 (h.2 g c hc)).1 (hne g ⟨c, hc⟩)).trans (h.2 g c hc)⟩
  | box r =>
    simp only [Ob.map, OInv] at h ⊢
    obtain ⟨h1, ⟨t, ws, h2, h3⟩, h4⟩ := h
    rw [hρ]
    refine ⟨h1, ⟨t, ws, ?_, hG.g r ws h3⟩, fun i => hnew _ rfl i (h4 i)⟩
    rw [hg.block _ (Array.getElem?_eq_some_iff.1 h2).1 (hne _ rfl)]
    exact h2
  | arr xs e sz by_ wr =>
    simp only [Ob.map, OInv] at h ⊢
    obtain ⟨h0, C, h1, h2, h3⟩ := h
    rw [hv, hρ]
    refine ⟨h0, C, h1.kept hg ?_, h2.mono hμ, fun g hg' => ?_⟩
    · cases hb : (E.ov k).ownBlock with
      | none => exact .inl rfl
      | some g => exact .inr (hne g hb)
    · obtain ⟨a, b, c⟩ := h3 g hg'
      exact ⟨a, fun i hi => hnew g hg' i (b i hi), fun hm j w hj => hμ _ _ _ (c hm j w hj)⟩
  | nest xs e sz by_ t =>
    simp only [Ob.map, OInv] at h ⊢
    obtain ⟨h0, C, h1, h2, h3, h4, h5⟩ := h
    rw [hv, hρ, hbl]
    refine ⟨h0, C, h1.kept hg ?_, h2.keep hμ hg (fun g hg' => hne g (.inr hg')) (fun g hg' o => hnew g (.inr hg') o ((h2.lt g hg').2 o)), h3, fun g hg' => ?_, fun i off k' r ht => ?_⟩
    · cases hb : (E.ov k).ownBlock with
      | none => exact .inl rfl
      | some g => exact .inr (hne g (.inl hb))
    · obtain ⟨a, b, c⟩ := h4 g hg'
      exact ⟨a, b, fun o => hnew g (.inl hg') o (c o)⟩
    · obtain ⟨e1, e2⟩ := hG.l t i off k' r ht
      obtain ⟨e3, e4, e5, e8⟩ := h5 i off k' r e1
      obtain ⟨e6, e7⟩ := e2 e4
      exact ⟨e3, e6, by rw [e7]; exact e5, e8⟩
  | tre xs s e sz by_ t =>
    simp only [Ob.map, OInv] at h ⊢
    obtain ⟨h1, h2, h3, h5⟩ := h
    rw [hv, hρ, hbl]
    refine ⟨OwnV.keep hμ hg (fun g hg' => hne g hg') (fun g hg' o => hnew g hg' o ((OwnV.lt h1 g hg').2 o)) h1, h2, h3, fun i off k' r ht => ?_⟩
    obtain ⟨e1, e2⟩ := hG.l t i off k' r ht
    obtain ⟨e3, e4, e5, e8, e9⟩ := h5 i off k' r e1
    obtain ⟨e6, e7⟩ := e2 e4
    exact ⟨e3, e6, e5, e8, by rw [e7]; exact hg.cell e9 (hne _ e8)⟩

structure Inv (B : Nat) (E : Env) (ob : List Ob) (W : World) : Prop where
  size : B ≤ W.heap.size
  n : E.n = ob.length
  mu : ∀ b o w, E.μ b o = some w → W.cell? ⟨b, o, none⟩ = some w
  obs : ∀ k o, ob[k]? = some o → OInv B E W k o
  apart : ∀ i j oi oj g, i ≠ j → ob[i]? = some oi → ob[j]? = some oj → Wb E i oi g → ¬ Wb E j oj g

theorem World.cell_lt {W : World} {b o : Nat} {w : Value} (h : W.cell? ⟨b, o, none⟩ = some w) : b < W.heap.size := World.block_lt_of_cell? W ⟨b, o, none⟩ h

/-- The object k turns (or comes as a new one: k = ob.length); all else keeps its meaning. -/
theorem Inv.change {B : Nat} {E E' : Env} {ob ob' : List Ob} {W W' : World} {k : Nat} {o' : Ob} {row : Option Nat} (f : Sw) (h : Inv B E ob W) (hE : E.leBut k E') (hn : E'.n = ob'.length)
    (hob : ∀ j oj', j ≠ k → ob'[j]? = some oj' → ∃ oj, ob[j]? = some oj ∧ oj' = oj.map f) (hobk : ob'[k]? = some o')
    (hG : f.Ok E E') (hg : W.grownBy W' row)
    (ho : OInv B E' W' k o') (hmu : ∀ b o w, E'.μ b o = some w → W'.cell? ⟨b, o, none⟩ = some w)
    (hnew : ∀ b o w, E'.μ b o = some w → E.μ b o = some w ∨ ∀ j oj, j ≠ k → ob[j]? = some oj → ¬ Wb E j oj b)
    (hrow : ∀ g, row = some g → ∀ j oj, j ≠ k → ob[j]? = some oj → ¬ Wb E j oj g)
    (hblk : ∀ g, Wb E' k o' g → ∀ j oj, j ≠ k → ob[j]? = some oj → ¬ Wb E j oj g)
    (hbl : ∀ j, j < E.n → j ≠ k → E'.bl j = E.bl j := by intros; rfl) : Inv B E' ob' W' := by
  have hsame : ∀ j oj, j ≠ k → ob[j]? = some oj → E'.ρ j = E.ρ j ∧ E'.ov j = E.ov j ∧ E'.bl j = E.bl j := fun j oj hj hoj => by
    have hlt : j < E.n := by rw [h.n]; exact (List.getElem?_eq_some_iff.1 hoj).1
    exact ⟨hE.ρ j hlt hj, hE.ov j hlt hj, hbl j hlt hj⟩
  refine ⟨Nat.le_trans h.size hg.size, hn, hmu, fun j oj' hj => ?_, ?_⟩
  · by_cases hjk : j = k
    · subst hjk; rw [hobk] at hj; cases hj; exact ho
    · obtain ⟨oj, h1, rfl⟩ := hob j oj' hjk hj
      obtain ⟨e1, e2, e5⟩ := hsame j oj hjk h1
      refine (h.obs j oj h1).keep f e1 e2 e5 hE.μ (fun g hg' i hi => ?_) hG hg fun g hg' e => hrow g e.symm j oj hjk h1 hg'
      cases hv : E'.μ g i with
      | none => rfl
      | some w =>
        rcases hnew g i w hv with h2 | h2
        · rw [hi] at h2; cases h2
        · exact absurd hg' (h2 j oj hjk h1)
  · intro i j oi' oj' g hij hi hj hwi hwj
    by_cases hik : i = k
    · subst hik
      rw [hobk] at hi; cases hi
      obtain ⟨oj, h1, rfl⟩ := hob j oj' (Ne.symm hij) hj
      obtain ⟨e1, e2, e5⟩ := hsame j oj (Ne.symm hij) h1
      rw [Wb_map, Wb_same e1 e2 e5] at hwj
      exact hblk g hwi j oj (Ne.symm hij) h1 hwj
    · obtain ⟨oi, h1, rfl⟩ := hob i oi' hik hi
      obtain ⟨e1, e2, e5⟩ := hsame i oi hik h1
      rw [Wb_map, Wb_same e1 e2 e5] at hwi
      by_cases hjk : j = k
      · subst hjk
        rw [hobk] at hj; cases hj
        exact hblk g hwj i oi hik h1 hwi
      · obtain ⟨oj, h2, rfl⟩ := hob j oj' hjk hj
        obtain ⟨e3, e4, e6⟩ := hsame j oj hjk h2
        rw [Wb_map, Wb_same e3 e4 e6] at hwj
        exact h.apart i j oi oj g hij h1 h2 hwi hwj

/-- With more memory that never turns. -/
def Env.mem (E : Env) (m : Mem) (h : Mem.le E.μ m) : Env := ⟨E.n, E.ρ, E.ov, E.bl, m, E.gok.mono h⟩

/-- A call, a draw: nothing of the call's own turns; memory that never turns is gained, in new blocks. -/
theorem Inv.world {B : Nat} {E : Env} {ob : List Ob} {W W' : World} {m : Mem} (h : Inv B E ob W) (hg : W.grownBy W' none) (hμ : Mem.le E.μ m)
    (hnew : ∀ b o w, m b o = some w → E.μ b o = some w ∨ W.heap.size ≤ b) (hmu : ∀ b o w, m b o = some w → W'.cell? ⟨b, o, none⟩ = some w) : Inv B (E.mem m hμ) ob W' := by
  have hle : E.le (E.mem m hμ) := ⟨Nat.le_refl _, fun _ _ => rfl, fun _ _ => rfl, hμ⟩
  refine ⟨Nat.le_trans h.size hg.size, h.n, hmu, fun k o hk => ?_, fun i j oi oj g hij hi hj hwi hwj => h.apart i j oi oj g hij hi hj (by rw [Wb_same (E := E) (E' := (E.mem m hμ)) rfl rfl rfl] at hwi; exact hwi) (by rw [Wb_same (E := E) (E' := (E.mem m hμ)) rfl rfl rfl] at hwj; exact hwj)⟩
  have := (h.obs k o hk).keep (E' := (E.mem m hμ)) (W' := W') (row := none) idS rfl rfl rfl hμ (fun g hgk i hi => ?_) (idS_ok hle) hg (fun g _ e => by cases e)
  · cases o <;> exact this
  · cases hv : m g i with
    | none => exact hv
    | some w =>
      rcases hnew g i w hv with h2 | h2
      · rw [hi] at h2; cases h2
      · have := ((h.obs k o hk).wlt hgk).2
        omega

def Env.push (E : Env) (b : Nat) (v : Value) : Env := ⟨E.n + 1, fun k => if k = E.n then b else E.ρ k, fun k => if k = E.n then v else E.ov k, E.bl, E.μ, E.gok⟩

theorem Env.le_push (E : Env) (b : Nat) (v : Value) : E.le (E.push b v) :=
  ⟨Nat.le_succ _, fun k hk => by simp only [Env.push]; rw [if_neg (by omega)], fun k hk => by simp only [Env.push]; rw [if_neg (by omega)], Mem.le_refl _⟩

/-- A new object in new memory. -/
theorem Inv.add {B : Nat} {E : Env} {ob : List Ob} {W W' : World} {b : Nat} {v : Value} {o : Ob} (h : Inv B E ob W) (hg : W.grownBy W' none) (ho : OInv B (E.push b v) W' E.n o)
    (hw : ∀ g, Wb (E.push b v) E.n o g → W.heap.size ≤ g) : Inv B (E.push b v) (ob ++ [o]) W' := by
  refine h.change (k := E.n) (o' := o) (row := none) idS ((E.le_push b v).but _) (by simp [Env.push, h.n]) (fun j oj hj hoj => ⟨oj, ?_, by cases oj <;> rfl⟩) (by rw [h.n]; simp) (idS_ok (E.le_push b v)) hg ho
    (fun b' o' w hm => hg.cell (h.mu b' o' w hm) (by simp)) (fun b' o' w hm => .inl hm) (fun g e => by cases e) (fun g hgk j oj hj hoj hwj => ?_)
  · rw [h.n] at hj
    rw [List.getElem?_append] at hoj
    split at hoj
    · exact hoj
    · rename_i hge
      have : j - ob.length ≠ 0 := by omega
      cases hh : j - ob.length with
      | zero => omega
      | succ d => rw [hh] at hoj; simp at hoj
  · have := ((h.obs j oj hoj).wlt hwj).2
    have := hw g hgk
    omega

theorem grownBy_setRow (W : World) (g : Nat) (cs : Array Value) : W.grownBy (W.setRow g cs) (some g) :=
  ⟨rfl, rfl, rfl, by simp, fun k _ hk => setRow_other W g k cs (fun e => hk (by rw [e]))⟩

/-- A box is written. -/
theorem Inv.setBox {B : Nat} {E : Env} {ob : List Ob} {W : World} {k : Nat} {row row' : List Seg} {ws : List Value} (h : Inv B E ob W) (hk : ob[k]? = some (.box row)) (hr : RepG E row' ws) :
    Inv B E (ob.set k (.box row')) (W.setRow (E.ρ k) ws.toArray) := by
  have hlt := (List.getElem?_eq_some_iff.1 hk).1
  obtain ⟨h1, ⟨t, us, h2, h3⟩, h4⟩ := h.obs k _ hk
  refine h.change (k := k) (o' := .box row') (row := some (E.ρ k)) idS ((Env.le_refl E).but k) (by simp [h.n]) (fun j oj hj hoj => ⟨oj, ?_, by cases oj <;> rfl⟩) (by simp [hlt]) (idS_ok (Env.le_refl E)) (grownBy_setRow W _ _)
    ⟨h1, ⟨t, ws, setRow_heap W _ _ _ t _ h2, hr⟩, h4⟩ (fun b o w hm => ?_) (fun b o w hm => .inl hm) (fun g e j oj hj hoj hwj => ?_) (fun g e j oj hj hoj hwj => ?_)
  · rw [List.getElem?_set_ne (Ne.symm hj)] at hoj; exact hoj
  · refine (grownBy_setRow W _ _).cell (h.mu b o w hm) fun e => ?_
    have e' : b = E.ρ k := Option.some.inj e
    rw [e', h4 o] at hm
    cases hm
  · cases e; exact h.apart k j _ oj _ (Ne.symm hj) hk hoj rfl hwj
  · exact h.apart k j _ oj g (Ne.symm hj) hk hoj e hwj

/-- More memory that never turns: a block's first cells. -/
def Mem.plus (m : Mem) (b : Nat) (C : List Value) : Mem := fun b' o => if b' = b then (match m b o with | some w => some w | none => C[o]?) else m b' o

theorem Mem.le_plus (m : Mem) (b : Nat) (C : List Value) : Mem.le m (m.plus b C) := fun b' o w h => by
  simp only [Mem.plus]
  split
  · rename_i e; subst e; rw [h]
  · exact h

theorem Mem.plus_spec {m : Mem} {b : Nat} {C : List Value} {b' o : Nat} {w : Value} (h : m.plus b C b' o = some w) : m b' o = some w ∨ (b' = b ∧ m b o = none ∧ C[o]? = some w) := by
  simp only [Mem.plus] at h
  split at h
  · rename_i e; subst e
    cases hm : m b' o with
    | some u => rw [hm] at h; exact .inl h
    | none => rw [hm] at h; exact .inr ⟨rfl, rfl, h⟩
  · exact .inl h

def pures : List Seg → Option (List PS)
  | [] => some []
  | .c (.p x) :: l => (pures l).map (.c x :: ·)
  | .c (.lit k n) :: l => (pures l).map (.c (.v (.int k n)) :: ·)
  | .c (.bl b) :: l => (pures l).map (.c (.v (.bool b)) :: ·)
  | .c .nil :: l => (pures l).map (.c (.sl [] []) :: ·)
  | .r n ws :: l => (pures l).map (.r n ws :: ·)
  | _ => none

theorem RepV.nil (m : Mem) : RepV m (.sl [] []) (.slice none 0 0) := by
  rw [RepV]
  exact ⟨none, 0, rfl, Nat.le_refl _, .inl ⟨rfl, rfl⟩⟩

theorem RepG.pures {E : Env} : ∀ {row : List Seg} {ps : List PS} {ws : List Value}, RepG E row ws → pures row = some ps → RepL E.μ ps ws
  | [], _, _, r, h => by cases h; exact r
  | .c (.p x) :: l, _, _, ⟨w, ws', e, hv, hr⟩, h => by
    simp only [Eng.pures, Option.map_eq_some_iff] at h
    obtain ⟨q, hq, rfl⟩ := h
    exact ⟨w, ws', e, hv, RepG.pures hr hq⟩
  | .c (.lit k n) :: l, _, _, ⟨w, ws', e, hv, hr⟩, h => by
    simp only [Eng.pures, Option.map_eq_some_iff] at h
    obtain ⟨q, hq, rfl⟩ := h
    rw [show w = _ from hv] at e
    exact ⟨_, ws', e, by rw [RepV]; exact ⟨rfl, rfl⟩, RepG.pures hr hq⟩
  | .c (.bl b) :: l, _, _, ⟨w, ws', e, hv, hr⟩, h => by
    simp only [Eng.pures, Option.map_eq_some_iff] at h
    obtain ⟨q, hq, rfl⟩ := h
    rw [show w = _ from hv] at e
    exact ⟨_, ws', e, by rw [RepV]; exact ⟨rfl, rfl⟩, RepG.pures hr hq⟩
  | .c .nil :: l, _, _, ⟨w, ws', e, hv, hr⟩, h => by
    simp only [Eng.pures, Option.map_eq_some_iff] at h
    obtain ⟨q, hq, rfl⟩ := h
    rw [show w = _ from hv] at e
    exact ⟨_, ws', e, RepV.nil _, RepG.pures hr hq⟩
  | .r n us :: l, _, _, ⟨hl, ho, ws', e, hr⟩, h => by
    simp only [Eng.pures, Option.map_eq_some_iff] at h
    obtain ⟨q, hq, rfl⟩ := h
    exact ⟨hl, ho, ws', e, RepG.pures hr hq⟩
  | .c (.own _) :: _, _, _, _, h => by cases h
  | .c (.ptr _ _) :: _, _, _, _, h => by cases h
  | .c (.ept _ _ _ _ _) :: _, _, _, _, h => by cases h
  | .c (.ipt _ _) :: _, _, _, _, h => by cases h
  | .c (.bsl _ _ _ _) :: _, _, _, _, h => by cases h
  | .c (.psl _ _ _ _) :: _, _, _, _, h => by cases h
  | .c (.clo _ _) :: _, _, _, _, h => by cases h
  | .c .dead :: _, _, _, _, h => by cases h
  | .c (.stl _) :: _, _, _, _, h => by cases h

/-- A box is written no more. -/
theorem Inv.freezeBox {B : Nat} {E : Env} {ob : List Ob} {W : World} {k : Nat} {row : List Seg} {ps : List PS} (h : Inv B E ob W) (hk : ob[k]? = some (.box row)) (hp : pures row = some ps) :
    ∃ E', E.le E' ∧ E'.n = E.n ∧ Inv B E' (ob.set k (.fbox ps)) W ∧ (∀ b o w, E'.μ b o = some w → E.μ b o = some w ∨ B ≤ b) := by
  have hlt := (List.getElem?_eq_some_iff.1 hk).1
  obtain ⟨h1, ⟨t, ws, h2, h3⟩, h4⟩ := h.obs k _ hk
  have hL := h3.pures hp
  have hle : E.le (E.mem (E.μ.plus (E.ρ k) ws) (Mem.le_plus _ _ _)) := ⟨Nat.le_refl _, fun _ _ => rfl, fun _ _ => rfl, Mem.le_plus _ _ _⟩
  have hcell : ∀ (o : Nat) (w : Value), ws[o]? = some w → W.cell? ⟨E.ρ k, o, none⟩ = some w := fun o w hw => by
    rw [cell_of_row W _ o _ t (0, 0) h2]; simpa using hw
  refine ⟨_, hle, rfl, ?_, ?_⟩
  · refine h.change (k := k) (o' := .fbox ps) (row := none) idS (hle.but k) (by simp [Env.mem, h.n]) (fun j oj hj hoj => ⟨oj, ?_, by cases oj <;> rfl⟩) (by simp [hlt]) (idS_ok hle) ⟨rfl, rfl, rfl, Nat.le_refl _, fun _ _ _ => rfl⟩
      ?_ (fun b o w hm => ?_) (fun b o w hm => ?_) (fun g e => by cases e) (fun g e => by cases e)
    · rw [List.getElem?_set_ne (Ne.symm hj)] at hoj; exact hoj
    · refine RepC.of_values (RepL.mono (Mem.le_plus _ _ _) ps ws hL) fun j w hj => ?_
      simp only [Env.mem, Mem.plus, if_true, Nat.zero_add]
      rw [h4 j]; exact hj
    · rcases Mem.plus_spec hm with hm | ⟨rfl, _, hw⟩
      · exact h.mu b o w hm
      · exact hcell o w hw
    · rcases Mem.plus_spec hm with hm | ⟨rfl, _, _⟩
      · exact .inl hm
      · exact .inr fun j oj hj hoj hwj => h.apart k j _ oj _ (Ne.symm hj) hk hoj rfl hwj
  · intro b o w hm
    rcases Mem.plus_spec hm with hm | ⟨rfl, _, _⟩
    · exact .inl hm
    · exact .inr h1

/-- An own slice's elements are written no more (it may still grow). -/
theorem Inv.freezeArr {B : Nat} {E : Env} {ob : List Ob} {W : World} {k : Nat} {xs : List (List PS)} {e : TypeId} {sz bytes : Nat} {wr : Bool} (h : Inv B E ob W) (hk : ob[k]? = some (.arr xs e sz bytes wr)) :
    ∃ E', E.le E' ∧ E'.n = E.n ∧ Inv B E' (ob.set k (.arr xs e sz bytes false)) W ∧ (∀ b o w, E'.μ b o = some w → E.μ b o = some w ∨ B ≤ b) ∧ RepV E'.μ (.sl xs []) (E.ov k) := by
  have hlt := (List.getElem?_eq_some_iff.1 hk).1
  obtain ⟨h0, C, h1, h2, h3⟩ := h.obs k _ hk
  have hCl := h2.length
  have hrep : ∀ m : Mem, Mem.le E.μ m → (∀ g, (E.ov k).ownBlock = some g → ∀ (j : Nat) (w : Value), C[j]? = some w → m g j = some w) → RepV m (.sl xs []) (E.ov k) := fun m hm hc => by
    simp only [RepV, RepE, and_true]
    rcases h1.2 with ⟨hv, hn⟩ | ⟨g, cap, cur, hv, hg, _, hnc, _⟩
    · exact ⟨none, 0, by rw [hv, hn], by simp [hn], .inl (List.eq_nil_of_length_eq_zero hn)⟩
    · refine ⟨some ⟨g, 0, none⟩, cap, hv, by simpa using hnc, .inr ⟨g, 0, sz, rfl, ?_⟩⟩
      exact RepX.toE (h2.mono hm) fun j w hj => by rw [Nat.zero_add]; exact hc g (by rw [hv]; rfl) j w hj
  cases hb : (E.ov k).ownBlock with
  | none =>
    refine ⟨E, Env.le_refl E, rfl, ?_, fun b o w hm => .inl hm, hrep _ (Mem.le_refl _) (fun g hg => by rw [hb] at hg; cases hg)⟩
    refine h.change (k := k) (o' := .arr xs e sz bytes false) (row := none) idS ((Env.le_refl E).but k) (by simp [h.n]) (fun j oj hj hoj => ⟨oj, ?_, by cases oj <;> rfl⟩) (by simp [hlt]) (idS_ok (Env.le_refl _)) ⟨rfl, rfl, rfl, Nat.le_refl _, fun _ _ _ => rfl⟩
      ⟨h0, C, h1, h2, fun g hg => by rw [hb] at hg; cases hg⟩ h.mu (fun b o w hm => .inl hm) (fun g e => by cases e) (fun g hg => by simp only [Wb, hb] at hg; cases hg)
    rw [List.getElem?_set_ne (Ne.symm hj)] at hoj; exact hoj
  | some g =>
    obtain ⟨hg, hno, hfr⟩ := h3 g hb
    obtain ⟨cap, cur, hv, hBg, hgg, hnc, hcm, hcs, htake⟩ : ∃ cap cur, E.ov k = .slice (some ⟨g, 0, none⟩) xs.length cap ∧ B ≤ g ∧ W.heap[g]? = some (.cells cur e (0, 0)) ∧ xs.length ≤ cap ∧ cap ≤ maxLen ∧ cur.size = cap * sz ∧ cur.toList.take (xs.length * sz) = C := by
      rcases h1.2 with ⟨hv, _⟩ | ⟨g', cap, cur, hv, hg', hh, r1, r2, r3, r4⟩
      · rw [hv] at hb; cases hb
      · rw [hv] at hb
        simp only [Value.ownBlock, Option.some.injEq] at hb
        subst hb
        exact ⟨cap, cur, hv, hg', hh, r1, r2, r3, r4⟩
    have hcell : ∀ (o : Nat) (w : Value), C[o]? = some w → W.cell? ⟨g, o, none⟩ = some w := fun o w hw => by
      have := h1.cells (g := g) hb o w hw
      rw [Addr.add_mid, Nat.zero_add] at this
      exact this
    have hle : E.le (E.mem (E.μ.plus g C) (Mem.le_plus _ _ _)) := ⟨Nat.le_refl _, fun _ _ => rfl, fun _ _ => rfl, Mem.le_plus _ _ _⟩
    have hin : ∀ (j : Nat) (w : Value), C[j]? = some w → E.μ.plus g C g j = some w := fun j w hj => by
      simp only [Mem.plus, if_true]
      cases hm : E.μ g j with
      | none => exact hj
      | some u => rw [← hj]; have h' := h.mu g j u hm; rw [hcell j w hj] at h'; cases h'; exact hj.symm
    refine ⟨_, hle, rfl, ?_, ?_, hrep _ (Mem.le_plus _ _ _) (fun g' hg' => by rw [hb] at hg'; cases hg'; exact hin)⟩
    · refine h.change (k := k) (o' := .arr xs e sz bytes false) (row := none) idS (hle.but k) (by simp [Env.mem, h.n]) (fun j oj hj hoj => ⟨oj, ?_, by cases oj <;> rfl⟩) (by simp [hlt]) (idS_ok hle) ⟨rfl, rfl, rfl, Nat.le_refl _, fun _ _ _ => rfl⟩
        ⟨h0, C, h1, h2.mono (Mem.le_plus _ _ _), fun g' hg' => ?_⟩ (fun b o w hm => ?_) (fun b o w hm => ?_) (fun g e => by cases e) (fun g' hg' j oj hj hoj hwj => ?_)
      · rw [List.getElem?_set_ne (Ne.symm hj)] at hoj; exact hoj
      · simp only [Env.mem] at hg' ⊢
        rw [show (E.ov k).ownBlock = some g from hb] at hg'; cases hg'
        refine ⟨hg, fun o ho => ?_, fun _ => hin⟩
        simp only [Mem.plus, if_true]
        rcases ho with ho | ho
        · cases ho
        · rw [hno o (.inr ho)]; simp only; exact List.getElem?_eq_none ho
      · rcases Mem.plus_spec hm with hm | ⟨rfl, _, hw⟩
        · exact h.mu b o w hm
        · exact hcell o w hw
      · rcases Mem.plus_spec hm with hm | ⟨rfl, _, _⟩
        · exact .inl hm
        · exact .inr fun j oj hj hoj hwj => h.apart k j _ oj _ (Ne.symm hj) hk hoj hb hwj
      · exact h.apart k j _ oj g' (Ne.symm hj) hk hoj hg' hwj
    · intro b o w hm
      rcases Mem.plus_spec hm with hm | ⟨rfl, _, _⟩
      · exact .inl hm
      · exact .inr hBg

end Go.Eng
