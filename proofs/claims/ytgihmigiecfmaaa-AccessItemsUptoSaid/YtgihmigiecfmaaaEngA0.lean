/-
  The values of an evaluator of Go code that knows no memory: pure values (slices as lists of rows), references to the call's own objects; what it means that they stand for the model's values. No program in sight.
-/
import Derived.Laws.AppendOwn
import Derived.Laws.OwnMore
import Derived.Laws.MakeOwn
import Derived.Laws.CopyOwn
import Derived.Laws.Tables
import Derived.Laws.StructEq
import Derived.Below
import Derived.Deep.MidRow
import Derived.Tactics
namespace Go.Eng
open Go Go.RowKit

abbrev Mem := Nat → Nat → Option Value

mutual
/-- A pure value of one cell: a plain one, or a slice with the rows that it holds (s: what is known to stand in the room behind it); in results only: an own slice that is handed out (ow: its rows are frozen; on: its rows may hold own slices, s stands in the room behind it). -/
inductive PV where
  | v (x : Value)
  | sl (xs s : List (List PS))
  | ow (xs : List (List PS)) (e : TypeId) (sz bytes : Nat)
  | on (xs s : List (List PS)) (e : TypeId) (sz bytes : Nat)
/-- A piece of a row of cells: one cell, or n plain cells at once. -/
inductive PS where
  | c (x : PV)
  | r (n : Nat) (ws : List Value)
end

/-- All that stands in a world. -/
def memOf (W : World) : Mem := fun b o => W.cell? ⟨b, o, none⟩

/-- A value of a whole result or argument: one cell, or a row of cells (ao: in results only, own slices among them). -/
inductive PR where
  | s (x : PV)
  | a (row : List PS)
  | ao (row : List PS)

def PS.len : PS → Nat
  | .c _ => 1
  | .r n _ => n
def rlen : List PS → Nat
  | [] => 0
  | p :: ps => p.len + rlen ps

mutual
def RepV (m : Mem) : PV → Value → Prop
  | .v x, w => w = x ∧ x.oneCell' = true
  | .sl xs s, w => ∃ ad cap, w = .slice ad xs.length cap ∧ xs.length + s.length ≤ cap ∧
      ((xs = [] ∧ s = []) ∨ ∃ b o sz, ad = some ⟨b, o, none⟩ ∧ RepE m xs b o sz ∧ RepE m s b (o + xs.length * sz) sz)
  | .ow _ _ _ _, _ => False
  | .on _ _ _ _ _, _ => False
def RepE (m : Mem) : List (List PS) → Nat → Nat → Nat → Prop
  | [], _, _, _ => True
  | x :: xs, b, o, sz => rlen x = sz ∧ RepC m x b o ∧ RepE m xs b (o + sz) sz
def RepC (m : Mem) : List PS → Nat → Nat → Prop
  | [], _, _ => True
  | p :: ps, b, o => RepP m p b o ∧ RepC m ps b (o + p.len)
def RepP (m : Mem) : PS → Nat → Nat → Prop
  | .c x, b, o => ∃ w, m b o = some w ∧ RepV m x w
  | .r n ws, b, o => ws.length = n ∧ ∀ (j : Nat) (w : Value), ws[j]? = some w → m b (o + j) = some w ∧ w.oneCell' = true
end

/-- The values of a row, in a list. -/
def RepL (m : Mem) : List PS → List Value → Prop
  | [], ws => ws = []
  | .c x :: ps, ws => ∃ w ws', ws = w :: ws' ∧ RepV m x w ∧ RepL m ps ws'
  | .r n us :: ps, ws => us.length = n ∧ (∀ u ∈ us, u.oneCell' = true) ∧ ∃ ws', ws = us ++ ws' ∧ RepL m ps ws'

def RepR (m : Mem) : PR → Value → Prop
  | .s x, w => RepV m x w
  | .a row, w => ∃ ws : List Value, w = .agg ws.toArray ∧ RepL m row ws
  | .ao _, _ => False

def RepRs (m : Mem) : List PR → List Value → Prop
  | [], ws => ws = []
  | p :: ps, ws => ∃ w ws', ws = w :: ws' ∧ RepR m p w ∧ RepRs m ps ws'

def Mem.le (m m' : Mem) : Prop := ∀ b o w, m b o = some w → m' b o = some w

theorem Mem.le_refl (m : Mem) : Mem.le m m := fun _ _ _ h => h
theorem Mem.le_trans {a b c : Mem} (h : Mem.le a b) (k : Mem.le b c) : Mem.le a c := fun x y w e => k x y w (h x y w e)

mutual
theorem RepV.mono {m m' : Mem} (h : Mem.le m m') : ∀ (x : PV) (w : Value), RepV m x w → RepV m' x w
  | .v x, w, r => by simpa only [RepV] using r
  | .sl xs s, w, r => by
    simp only [RepV] at r ⊢
    obtain ⟨ad, cap, hw, hc, hr⟩ := r
    refine ⟨ad, cap, hw, hc, ?_⟩
    rcases hr with hr | ⟨b, o, sz, ha, h1, h2⟩
    · exact .inl hr
    · exact .inr ⟨b, o, sz, ha, RepE.mono h xs _ _ _ h1, RepE.mono h s _ _ _ h2⟩
  | .ow _ _ _ _, w, r => by simp only [RepV] at r
  | .on _ _ _ _ _, w, r => by simp only [RepV] at r
theorem RepE.mono {m m' : Mem} (h : Mem.le m m') : ∀ (xs : List (List PS)) (b o sz : Nat), RepE m xs b o sz → RepE m' xs b o sz
  | [], _, _, _, _ => by simp only [RepE]
  | x :: xs, b, o, sz, r => by
    simp only [RepE] at r ⊢
    exact ⟨r.1, RepC.mono h x _ _ r.2.1, RepE.mono h xs _ _ _ r.2.2⟩
theorem RepC.mono {m m' : Mem} (h : Mem.le m m') : ∀ (xs : List PS) (b o : Nat), RepC m xs b o → RepC m' xs b o
  | [], _, _, _ => by simp only [RepC]
  | p :: ps, b, o, r => by
    simp only [RepC] at r ⊢
    exact ⟨RepP.mono h p _ _ r.1, RepC.mono h ps _ _ r.2⟩
theorem RepP.mono {m m' : Mem} (h : Mem.le m m') : ∀ (x : PS) (b o : Nat), RepP m x b o → RepP m' x b o
  | .c x, b, o, r => by
    simp only [RepP] at r ⊢
    obtain ⟨w, hw, hv⟩ := r
    exact ⟨w, h _ _ _ hw, RepV.mono h x w hv⟩
  | .r n ws, b, o, r => by
    simp only [RepP] at r ⊢
    exact ⟨r.1, fun j w hj => ⟨h _ _ _ (r.2 j w hj).1, (r.2 j w hj).2⟩⟩
end

theorem RepL.mono {m m' : Mem} (h : Mem.le m m') : ∀ (xs : List PS) (ws : List Value), RepL m xs ws → RepL m' xs ws
  | [], _, r => r
  | .c x :: ps, _, ⟨w, ws', e, hv, hr⟩ => ⟨w, ws', e, RepV.mono h x w hv, RepL.mono h ps ws' hr⟩
  | .r _ _ :: ps, _, ⟨hl, ho, ws', e, hr⟩ => ⟨hl, ho, ws', e, RepL.mono h ps ws' hr⟩

theorem RepR.mono {m m' : Mem} (h : Mem.le m m') : ∀ (x : PR) (w : Value), RepR m x w → RepR m' x w
  | .s x, w, r => RepV.mono h x w r
  | .a cs, _, ⟨ws, e, r⟩ => ⟨ws, e, RepL.mono h cs ws r⟩
  | .ao _, _, r => r.elim

theorem RepRs.mono {m m' : Mem} (h : Mem.le m m') : ∀ (xs : List PR) (ws : List Value), RepRs m xs ws → RepRs m' xs ws
  | [], _, r => r
  | p :: ps, _, ⟨w, ws', e, hv, hr⟩ => ⟨w, ws', e, RepR.mono h p w hv, RepRs.mono h ps ws' hr⟩

theorem RepV.oneCell {m : Mem} : ∀ {x : PV} {w : Value}, RepV m x w → w.oneCell' = true
  | .v x, w, r => by simp only [RepV] at r; rw [r.1]; exact r.2
  | .sl xs s, w, r => by
    simp only [RepV] at r
    obtain ⟨ad, cap, rfl, _⟩ := r
    rfl
  | .ow _ _ _ _, w, r => by simp only [RepV] at r
  | .on _ _ _ _ _, w, r => by simp only [RepV] at r

theorem RepL.length {m : Mem} : ∀ {xs : List PS} {ws : List Value}, RepL m xs ws → ws.length = rlen xs
  | [], _, r => by rw [show _ = [] from r]; rfl
  | .c x :: ps, _, ⟨w, ws', e, _, hr⟩ => by rw [e]; simp [RepL.length hr, rlen, PS.len]; omega
  | .r n us :: ps, _, ⟨hl, _, ws', e, hr⟩ => by rw [e]; simp [RepL.length hr, rlen, PS.len, hl]

/-! ### From cells in memory to a list of values, and back -/
theorem RepC.values {m : Mem} : ∀ {xs : List PS} {b o : Nat}, RepC m xs b o → ∃ ws : List Value, RepL m xs ws ∧ ∀ (j : Nat) (w : Value), ws[j]? = some w → m b (o + j) = some w
  | [], _, _, _ => ⟨[], rfl, by simp⟩
  | .c x :: ps, b, o, r => by
    simp only [RepC, RepP, PS.len] at r
    obtain ⟨⟨w, hw, hv⟩, r2⟩ := r
    obtain ⟨ws, h1, h2⟩ := RepC.values r2
    refine ⟨w :: ws, ⟨w, ws, rfl, hv, h1⟩, fun j u hj => ?_⟩
    cases j with
    | zero => simp at hj; subst hj; exact hw
    | succ j => simp at hj; rw [show o + (j + 1) = o + 1 + j by omega]; exact h2 j u hj
  | .r n us :: ps, b, o, r => by
    simp only [RepC, RepP, PS.len] at r
    obtain ⟨⟨hl, hu⟩, r2⟩ := r
    obtain ⟨ws, h1, h2⟩ := RepC.values r2
    refine ⟨us ++ ws, ⟨hl, fun u hm => ?_, ws, rfl, h1⟩, fun j u hj => ?_⟩
    · obtain ⟨i, hi, e⟩ := List.getElem_of_mem hm
      exact (hu i u (by rw [List.getElem?_eq_getElem hi, e])).2
    · rw [List.getElem?_append] at hj
      split at hj
      · exact (hu j u hj).1
      · have := h2 _ u hj
        rw [show o + j = o + n + (j - us.length) by omega]
        exact this

theorem RepC.of_values {m : Mem} : ∀ {xs : List PS} {ws : List Value} {b o : Nat}, RepL m xs ws → (∀ (j : Nat) (w : Value), ws[j]? = some w → m b (o + j) = some w) → RepC m xs b o
  | [], _, _, _, _, _ => by simp only [RepC]
  | .c x :: ps, _, b, o, ⟨w, ws', e, hv, hr⟩, h => by
    subst e
    simp only [RepC, RepP, PS.len]
    refine ⟨⟨w, by simpa using h 0 w (by simp), hv⟩, RepC.of_values hr fun j u hj => ?_⟩
    rw [show o + 1 + j = o + (j + 1) by omega]
    exact h (j + 1) u (by simpa using hj)
  | .r n us :: ps, _, b, o, ⟨hl, ho, ws', e, hr⟩, h => by
    subst e
    simp only [RepC, RepP, PS.len]
    refine ⟨⟨hl, fun j w hj => ⟨h j w ?_, ho w (List.mem_of_getElem? hj)⟩⟩, RepC.of_values hr fun j u hj => ?_⟩
    · have : j < us.length := (List.getElem?_eq_some_iff.1 hj).1
      rw [List.getElem?_append_left this]; exact hj
    · rw [show o + n + j = o + (n + j) by omega]
      refine h (n + j) u ?_
      rw [List.getElem?_append_right (by omega)]
      rw [show n + j - us.length = j by omega]
      exact hj

theorem RepE.get {m : Mem} : ∀ {xs : List (List PS)} {b o sz : Nat}, RepE m xs b o sz → ∀ (i : Nat) (x : List PS), xs[i]? = some x → rlen x = sz ∧ RepC m x b (o + i * sz)
  | [], _, _, _, _, i, x, h => by simp at h
  | y :: ys, b, o, sz, r, i, x, h => by
    simp only [RepE] at r
    cases i with
    | zero => simp at h; subst h; simpa using ⟨r.1, r.2.1⟩
    | succ i =>
      simp at h
      have := RepE.get r.2.2 i x h
      rw [show o + (i + 1) * sz = o + sz + i * sz by rw [Nat.add_mul]; omega]
      exact this

theorem RepE.of_get {m : Mem} : ∀ {xs : List (List PS)} {b o sz : Nat}, (∀ (i : Nat) (x : List PS), xs[i]? = some x → rlen x = sz ∧ RepC m x b (o + i * sz)) → RepE m xs b o sz
  | [], _, _, _, _ => by simp only [RepE]
  | y :: ys, b, o, sz, h => by
    simp only [RepE]
    have h0 := h 0 y (by simp)
    refine ⟨h0.1, by simpa using h0.2, RepE.of_get fun i x hi => ?_⟩
    have := h (i + 1) x (by simpa using hi)
    rw [show o + sz + i * sz = o + (i + 1) * sz by rw [Nat.add_mul]; omega]
    exact this

theorem RepE.append {m : Mem} {xs ys : List (List PS)} {b o sz : Nat} (h : RepE m xs b o sz) (k : RepE m ys b (o + xs.length * sz) sz) : RepE m (xs ++ ys) b o sz :=
  RepE.of_get fun i x hi => by
    rw [List.getElem?_append] at hi
    split at hi
    · exact RepE.get h i x hi
    · rename_i hlt
      have := RepE.get k _ x hi
      rw [show o + i * sz = o + xs.length * sz + (i - xs.length) * sz by rw [Nat.add_assoc, ← Nat.add_mul]; congr 2; omega]
      exact this

theorem RepE.take {m : Mem} {xs : List (List PS)} {b o sz : Nat} (h : RepE m xs b o sz) (n : Nat) : RepE m (xs.take n) b o sz :=
  RepE.of_get fun i x hi => by
    rw [List.getElem?_take] at hi
    split at hi
    · exact RepE.get h i x hi
    · cases hi

theorem RepE.drop {m : Mem} {xs : List (List PS)} {b o sz : Nat} (h : RepE m xs b o sz) (n : Nat) : RepE m (xs.drop n) b (o + n * sz) sz :=
  RepE.of_get fun i x hi => by
    rw [List.getElem?_drop] at hi
    have := RepE.get h _ x hi
    rw [show o + n * sz + i * sz = o + (n + i) * sz by rw [Nat.add_mul]; omega]
    exact this

end Go.Eng
