/-
  Own slices whose rows hold own slices: what stands in a row is taken out, put back, laid behind, cut off.
-/
import Derived.Test.YtgihmigiecfmaaaEngK6
import Derived.Test.YtgihmigiecfmaaaEngO
namespace Go.Eng
open Go Go.RowKit

/-! ### A cell of a row -/
def pcget : List PS → Nat → Option PV
  | [], _ => none
  | .c x :: l, off => match off with
    | 0 => some x
    | o + 1 => pcget l o
  | .r n _ :: l, off => if n ≤ off then pcget l (off - n) else none

def pcput : List PS → Nat → PV → List PS
  | [], _, _ => []
  | .c x :: l, off, y => match off with
    | 0 => .c y :: l
    | o + 1 => .c x :: pcput l o y
  | .r n ws :: l, off, y => .r n ws :: pcput l (off - n) y

theorem rlen_pcput : ∀ (row : List PS) (off : Nat) (y : PV), rlen (pcput row off y) = rlen row
  | [], _, _ => rfl
  | .c _ :: l, 0, _ => rfl
  | .c _ :: l, o + 1, y => by simp only [pcput, rlen, rlen_pcput l o y]
  | .r _ _ :: l, off, y => by simp only [pcput, rlen, rlen_pcput l _ y]

section
variable {B : Nat} {m : Mem} {W : World}

theorem OwnL.length : ∀ {row : List PS} {ws : List Value} {F : List Nat}, OwnL B m W row ws F → ws.length = rlen row
  | [], _, _, h => by rw [h.1]; rfl
  | .c x :: ps, _, _, ⟨w, ws', F1, F2, e, _, _, hr⟩ => by rw [e]; simp only [List.length_cons, OwnL.length hr, rlen, PS.len]; omega
  | .r n us :: ps, _, _, ⟨hl, _, ws', e, hr⟩ => by rw [e]; simp only [List.length_append, OwnL.length hr, rlen, PS.len, hl]

theorem OwnX.length : ∀ {xs : List (List PS)} {sz : Nat} {C : List Value} {F : List Nat}, OwnX B m W xs sz C F → C.length = xs.length * sz
  | [], _, _, _, h => by rw [h.1]; simp
  | x :: xs, sz, _, _, ⟨w, C', F1, F2, e, _, hl, hv, hr⟩ => by rw [e, List.length_append, hr.length, hv.length, hl, List.length_cons, Nat.add_mul]; omega

theorem OwnV.one : ∀ {x : PV} {w : Value} {F : List Nat}, OwnV B m W x w F → w.oneCell' = true
  | .v _, _, _, h => RepV.oneCell h.2
  | .sl _ _, _, _, h => RepV.oneCell h.2
  | .ow _ _ _ _, _, _, h => h.2.2.2.1
  | .on _ _ _ _ _, _, _, h => OwnV.oneC h

theorem OwnL.all_one : ∀ {row : List PS} {ws : List Value} {F : List Nat}, OwnL B m W row ws F → ∀ w ∈ ws, w.oneCell' = true
  | [], _, _, h, w, hw => by rw [h.1] at hw; cases hw
  | .c x :: ps, _, _, ⟨u, ws', F1, F2, e, _, hv, hr⟩, w, hw => by
    subst e
    rcases List.mem_cons.1 hw with rfl | hw
    · exact hv.one
    · exact OwnL.all_one hr w hw
  | .r n us :: ps, _, _, ⟨hl, ho, ws', e, hr⟩, w, hw => by
    subst e
    rcases List.mem_append.1 hw with hw | hw
    · exact ho w hw
    · exact OwnL.all_one hr w hw

theorem OwnL.at : ∀ {row : List PS} {ws : List Value} {F : List Nat} {off : Nat} {x : PV}, OwnL B m W row ws F → pcget row off = some x →
    ∃ A f D w, F = A ++ (f ++ D) ∧ ws[off]? = some w ∧ OwnV B m W x w f ∧ ∀ y w' f', OwnV B m W y w' f' → OwnL B m W (pcput row off y) (ws.set off w') (A ++ (f' ++ D))
  | [], _, _, _, _, _, h => by cases h
  | .c x :: l, _, _, 0, _, ⟨w, ws', F1, F2, e, eF, hv, hr⟩, h => by
    cases h
    subst e; subst eF
    exact ⟨[], F1, F2, w, rfl, rfl, hv, fun y w' f' hy => ⟨w', ws', f', F2, rfl, rfl, hy, hr⟩⟩
  | .c x :: l, _, _, o + 1, _, ⟨w, ws', F1, F2, e, eF, hv, hr⟩, h => by
    subst e; subst eF
    obtain ⟨A, f, D, u, h1, h2, h3, h4⟩ := OwnL.at hr h
    exact ⟨F1 ++ A, f, D, u, by rw [h1]; simp, by simpa using h2, h3, fun y w' f' hy => ⟨w, _, F1, A ++ (f' ++ D), rfl, by simp, hv, h4 y w' f' hy⟩⟩
  | .r n us :: l, _, _, off, _, ⟨hl, ho, ws', e, hr⟩, h => by
    subst e
    simp only [pcget] at h
    split at h
    · rename_i hle
      obtain ⟨A, f, D, u, h1, h2, h3, h4⟩ := OwnL.at hr h
      refine ⟨A, f, D, u, h1, by rw [List.getElem?_append_right (by omega), hl]; exact h2, h3, fun y w' f' hy => ⟨hl, ho, _, ?_, h4 y w' f' hy⟩⟩
      rw [List.set_append_right (s := us) _ _ (by omega), hl]
    · cases h

theorem OwnX.at : ∀ {xs : List (List PS)} {sz : Nat} {C : List Value} {F : List Nat} {i : Nat} {row : List PS}, OwnX B m W xs sz C F → xs[i]? = some row →
    ∃ A f D w, F = A ++ (f ++ D) ∧ rlen row = sz ∧ OwnL B m W row w f ∧ (∀ j, j < sz → C[i * sz + j]? = w[j]?) ∧
      ∀ row' w' f', rlen row' = sz → OwnL B m W row' w' f' → OwnX B m W (xs.set i row') sz (C.take (i * sz) ++ w' ++ C.drop (i * sz + sz)) (A ++ (f' ++ D))
  | [], _, _, _, i, row, _, h => by simp at h
  | x :: xs, sz, _, _, 0, row, ⟨w, C', F1, F2, e, eF, hl, hv, hr⟩, h => by
    simp at h
    subst h; subst e; subst eF
    have hwl : w.length = sz := by rw [hv.length, hl]
    refine ⟨[], F1, F2, w, rfl, hl, hv, fun j hj => ?_, fun row' w' f' hl' hv' => ⟨w', C', f', F2, ?_, rfl, hl', hv', hr⟩⟩
    · rw [Nat.zero_mul, Nat.zero_add, List.getElem?_append_left (by omega)]
    · rw [Nat.zero_mul, List.take_zero, List.nil_append, Nat.zero_add, ← hwl, List.drop_left]
  | x :: xs, sz, _, _, i + 1, row, ⟨w, C', F1, F2, e, eF, hl, hv, hr⟩, h => by
    simp at h
    subst e; subst eF
    have hwl : w.length = sz := by rw [hv.length, hl]
    obtain ⟨A, f, D, u, h1, h2, h3, h4, h5⟩ := OwnX.at hr h
    have hm : (i + 1) * sz = sz + i * sz := by rw [Nat.add_mul]; omega
    refine ⟨F1 ++ A, f, D, u, by rw [h1]; simp, h2, h3, fun j hj => ?_, fun row' w' f' hl' hv' => ⟨w, _, F1, A ++ (f' ++ D), ?_, by simp, hl, hv, h5 row' w' f' hl' hv'⟩⟩
    · rw [hm, List.getElem?_append_right (by omega), hwl, show sz + i * sz + j - sz = i * sz + j by omega]
      exact h4 j hj
    · rw [hm, List.take_append, List.take_of_length_le (by omega), hwl, List.drop_append, List.drop_of_length_le (by omega), hwl, show sz + i * sz - sz = i * sz by omega, show sz + i * sz + sz - sz = i * sz + sz by omega]
      simp

/-- One cell of one row. -/
theorem OwnX.cell {xs : List (List PS)} {sz : Nat} {C : List Value} {F : List Nat} {i off : Nat} {row : List PS} {x : PV} (h : OwnX B m W xs sz C F) (hi : xs[i]? = some row) (hc : pcget row off = some x) :
    ∃ A f D w, F = A ++ (f ++ D) ∧ off < sz ∧ C[i * sz + off]? = some w ∧ OwnV B m W x w f ∧ ∀ y w' f', OwnV B m W y w' f' → OwnX B m W (xs.set i (pcput row off y)) sz (C.set (i * sz + off) w') (A ++ (f' ++ D)) := by
  obtain ⟨A, f, D, ws, h1, h2, h3, h4, h5⟩ := h.at hi
  obtain ⟨A', f', D', w, g1, g2, g3, g4⟩ := h3.at hc
  have hwl : ws.length = sz := by rw [h3.length, h2]
  have hoff : off < sz := by rw [← hwl]; exact (List.getElem?_eq_some_iff.1 g2).1
  have hCl := h.length
  have hlt : i < xs.length := (List.getElem?_eq_some_iff.1 hi).1
  have hfit : i * sz + sz ≤ C.length := by
    rw [hCl, show i * sz + sz = (i + 1) * sz by rw [Nat.add_mul, Nat.one_mul]]
    exact Nat.mul_le_mul_right _ hlt
  refine ⟨A ++ A', f', D' ++ D, w, by rw [h1, g1]; simp, hoff, by rw [h4 off hoff]; exact g2, g3, fun y w' f'' hy => ?_⟩
  have := h5 (pcput row off y) (ws.set off w') _ (by rw [rlen_pcput, h2]) (g4 y w' f'' hy)
  rw [splice_set C ws w' (i * sz) off sz hwl hoff hfit h4] at this
  rw [List.set_eq_take_append_cons_drop (l := C), if_pos (by omega)]
  simpa using this

theorem OwnX.append : ∀ {xs ys : List (List PS)} {sz : Nat} {C D : List Value} {F G : List Nat}, OwnX B m W xs sz C F → OwnX B m W ys sz D G → OwnX B m W (xs ++ ys) sz (C ++ D) (F ++ G)
  | [], _, _, _, _, _, _, h, k => by rw [h.1, h.2]; exact k
  | _ :: _, _, _, _, _, _, _, ⟨w, C', F1, F2, e, eF, hl, hv, hr⟩, k => by subst e; subst eF; exact ⟨w, _, F1, _, by simp, by simp, hl, hv, hr.append k⟩

theorem OwnL.of_rep : ∀ {row : List PS} {ws : List Value}, RepL m row ws → OwnL B m W row ws []
  | [], _, h => ⟨h, rfl⟩
  | .c _ :: _, _, ⟨w, ws', e, hv, hr⟩ => ⟨w, ws', [], [], e, rfl, OwnV.of_rep hv, OwnL.of_rep hr⟩
  | .r _ _ :: _, _, ⟨hl, ho, ws', e, hr⟩ => ⟨hl, ho, ws', e, OwnL.of_rep hr⟩

theorem OwnX.take : ∀ {xs : List (List PS)} {sz : Nat} {C : List Value} {F : List Nat} (n : Nat), OwnX B m W xs sz C F → ∃ F1 F2, F = F1 ++ F2 ∧ OwnX B m W (xs.take n) sz (C.take (n * sz)) F1
  | [], sz, C, F, n, h => ⟨[], [], by rw [h.2]; rfl, by rw [h.1]; simp [OwnX]⟩
  | x :: xs, sz, C, F, 0, h => ⟨[], F, rfl, by simp [OwnX]⟩
  | x :: xs, sz, _, _, n + 1, ⟨w, C', F1, F2, e, eF, hl, hv, hr⟩ => by
    subst e; subst eF
    have hwl : w.length = sz := by rw [hv.length, hl]
    obtain ⟨G1, G2, g1, g2⟩ := hr.take n
    refine ⟨F1 ++ G1, G2, by rw [g1]; simp, ?_⟩
    rw [List.take_succ_cons, show (n + 1) * sz = w.length + n * sz by rw [hwl, Nat.add_mul]; omega, List.take_length_add_append]
    exact ⟨w, _, F1, G1, rfl, rfl, hl, hv, g2⟩

/-- A nil slice in a row is an own one, of nothing. -/
theorem OwnL.nil {row : List PS} {ws : List Value} {F : List Nat} {off : Nat} {te : TypeId} {tsz tb : Nat} (h : OwnL B m W row ws F) (hc : pcget row off = some (.v (.slice none 0 0))) (ht : 0 < tsz) : OwnL B m W (pcput row off (.ow [] te tsz tb)) ws F := by
  obtain ⟨A, f, D, w, h1, h2, h3, h4⟩ := h.at hc
  obtain ⟨hf, hw⟩ := h3
  simp only [RepV] at hw
  have := h4 (.ow [] te tsz tb) w [] ⟨ht, by rw [hw.1]; rfl, by simp, by rw [hw.1]; rfl, [], by rw [hw.1]; exact World.ownsRow_nil _ _ _ _, rfl⟩
  have e : ws.set off w = ws := by
    refine List.ext_getElem? fun q => ?_
    rw [List.getElem?_set]
    split
    · rename_i hq; subst hq; split
      · exact h2.symm
      · rename_i hlt; rw [List.getElem?_eq_none (by omega)]
    · rfl
  rw [e] at this
  rw [h1, hf]
  exact this
end

/-- Nil slices among a row's fields become own ones. -/
def nilFields : List (Nat × TypeId) → List PS → List PS
  | [], row => row
  | (off, ft) :: l, row => match (tt ft).d with
    | .slice te => match pcget row off with
      | some (.v (.slice none 0 0)) => if 0 < (tt te).size then nilFields l (pcput row off (.ow [] te (tt te).size (tt te).bytes)) else nilFields l row
      | _ => nilFields l row
    | _ => nilFields l row

def nilRows (fs : List (Nat × TypeId)) : List (List PS) → List (List PS)
  | [] => []
  | x :: l => nilFields fs x :: nilRows fs l

def fieldsOf (e : TypeId) : List (Nat × TypeId) :=
  match (tt e).d with
  | .struct fs => fs
  | _ => []

theorem nilFields_spec {B : Nat} {m : Mem} {W : World} : ∀ (fs : List (Nat × TypeId)) {row : List PS} {ws : List Value} {F : List Nat}, OwnL B m W row ws F → OwnL B m W (nilFields fs row) ws F ∧ rlen (nilFields fs row) = rlen row
  | [], _, _, _, h => ⟨h, rfl⟩
  | (off, ft) :: l, row, _, _, h => by
    unfold nilFields
    split
    · rename_i te hd
      split
      · rename_i hc
        split
        · rename_i hsz
          obtain ⟨h1, h2⟩ := nilFields_spec l (h.nil (te := te) (tb := (tt te).bytes) hc hsz)
          exact ⟨h1, h2.trans (rlen_pcput _ _ _)⟩
        · exact nilFields_spec l h
      · exact nilFields_spec l h
    · exact nilFields_spec l h

theorem nilRows_length (fs : List (Nat × TypeId)) : ∀ ys : List (List PS), (nilRows fs ys).length = ys.length
  | [] => rfl
  | _ :: l => by simp [nilRows, nilRows_length fs l]

theorem nilRows_spec {B : Nat} {m : Mem} {W : World} {fs : List (Nat × TypeId)} : ∀ {ys : List (List PS)} {sz : Nat} {C : List Value}, RepX m ys sz C → OwnX B m W (nilRows fs ys) sz C []
  | [], _, _, h => ⟨h, rfl⟩
  | _ :: _, _, _, ⟨w, C', e, hl, hw, hr⟩ => by
    obtain ⟨h1, h2⟩ := nilFields_spec fs (OwnL.of_rep (B := B) (W := W) hw)
    exact ⟨w, C', [], [], e, rfl, h2.trans hl, h1, nilRows_spec hr⟩

/-! ### The object -/
theorem OInv.nestBlk {B : Nat} {E : Env} {W : World} {k : Nat} {xs : List (List PS)} {e : TypeId} {sz by_ : Nat} {t : Option (Nat × Nat × Nat × List PS)} (h : OInv B E W k (.nest xs e sz by_ t)) :
    (E.ov k = .slice none 0 0 ∧ xs = []) ∨ ∃ cap cur, E.ov k = .slice (some ⟨E.ρ k, 0, none⟩) xs.length cap ∧ W.heap[E.ρ k]? = some (.cells cur e (0, 0)) ∧ xs.length ≤ cap ∧ cur.size = cap * sz ∧
      OwnX B E.μ W xs sz (cur.toList.take (xs.length * sz)) (E.bl k) ∧ cap ≤ maxLen ∧ B ≤ E.ρ k ∧
      (∀ i off k' row, t = some (i, off, k', row) → off < sz ∧ k' < E.n ∧ (cur.toList.take (xs.length * sz))[i * sz + off]? = some (E.ov k') ∧ xs[i]? = some row) := by
  obtain ⟨h0, C, h1, h2, h3, h4, h5⟩ := h
  rcases h1.2 with ⟨hv, hn⟩ | ⟨g, cap, cur, hv, hB, hg, hnc, hcm, hcs, htake⟩
  · exact .inl ⟨hv, List.eq_nil_of_length_eq_zero hn⟩
  · have hb : (E.ov k).ownBlock = some g := by rw [hv]; rfl
    have e := (h4 g hb).1
    subst e
    rw [← htake] at h2 h5
    exact .inr ⟨cap, cur, hv, hg, hnc, hcs, h2, hcm, hB, h5⟩

theorem set_same {α : Type} {l : List α} {i : Nat} {x : α} (h : l[i]? = some x) : l.set i x = l := by
  refine List.ext_getElem? fun q => ?_
  rw [List.getElem?_set]
  split
  · rename_i hq; subst hq; split
    · exact h.symm
    · rename_i hlt; rw [List.getElem?_eq_none (by omega)]
  · rfl

theorem nodup_sub {A f D : List Nat} (h : (A ++ (f ++ D)).Nodup) : (A ++ D).Nodup := by
  rw [List.nodup_append] at h ⊢
  rw [List.nodup_append] at h
  exact ⟨h.1, h.2.1.2.1, fun a ha b hb => h.2.2 a ha b (List.mem_append_right _ hb)⟩

/-- What stands in a row is taken out. -/
theorem Inv.nestTake {B : Nat} {E : Env} {ob : List Ob} {W : World} {j i off : Nat} {xs ys : List (List PS)} {row : List PS} {e te : TypeId} {sz by_ tsz tb : Nat} {t : Option (Nat × Nat × Nat × List PS)}
    (h : Inv B E ob W) (hj : ob[j]? = some (.nest xs e sz by_ t)) (hi : xs[i]? = some row) (hc : pcget row off = some (.ow ys te tsz tb)) :
    ∃ w E', E.le E' ∧ E'.μ = E.μ ∧ Inv B E' (ob.set j (.nest (xs.set i (pcput row off (.v w))) e sz by_ none) ++ [.arr ys te tsz tb true]) W ∧ RepK E' (.own ob.length) w ∧ W.cell? ⟨E.ρ j, i * sz + off, none⟩ = some w := by
  have hlt := (List.getElem?_eq_some_iff.1 hj).1
  obtain ⟨h0, C, h1, h2, h3, h4, h5⟩ := h.obs j _ hj
  obtain ⟨A, f, D, w, g1, g2, g3, g4, g5⟩ := h2.cell hi hc
  have hone := g4.one
  have hX := g5 (.v w) w [] ⟨rfl, by rw [RepV]; exact ⟨rfl, hone⟩⟩
  rw [set_same g3, List.nil_append] at hX
  rw [g1] at h3
  have hsub : ∀ g, g ∈ A ++ D → g ∈ E.bl j := fun g hg => by
    rw [g1]
    rcases List.mem_append.1 hg with hg | hg
    · exact List.mem_append_left _ hg
    · exact List.mem_append_right _ (List.mem_append_right _ hg)
  have hle := E.le_bls j (A ++ D)
  have i1 : Inv B (E.bls j (A ++ D)) (ob.set j (.nest (xs.set i (pcput row off (.v w))) e sz by_ none)) W := by
    refine h.change (k := j) (o' := .nest (xs.set i (pcput row off (.v w))) e sz by_ none) (row := none) idS (hle.but j) (by simp [Env.bls, h.n]) (fun q oq hq hoq => ⟨oq, ?_, by cases oq <;> rfl⟩) (by simp [hlt]) (idS_ok hle) (grownBy_refl _ _)
      ⟨h0, C, by simp only [Env.bls, List.length_set]; exact h1, ?_, ?_, fun g hg => ?_, fun _ _ _ _ e => by cases e⟩ h.mu (fun b o w hm => .inl hm) (fun g e => by cases e) (fun g hg q oq hq hoq hw => ?_) (fun q _ hq => if_neg hq)
    · rw [List.getElem?_set_ne (Ne.symm hq)] at hoq; exact hoq
    · simp only [Env.bls, if_true]; exact hX
    · simp only [Env.bls, if_true]; exact nodup_sub h3
    · obtain ⟨a, b, c⟩ := h4 g hg
      refine ⟨a, fun hm => ?_, c⟩
      simp only [Env.bls, if_true] at hm
      exact b (hsub g hm)
    · refine h.apart j q _ oq g (Ne.symm hq) hj hoq ?_ hw
      rcases hg with hg | hg
      · exact .inl hg
      · simp only [Env.bls, if_true] at hg
        exact .inr (hsub g hg)
  have hfree : Free (E.bls j (A ++ D)) (ob.set j (.nest (xs.set i (pcput row off (.v w))) e sz by_ none)) f := fun g hg q oq hoq hw => by
    have hgb : g ∈ E.bl j := by rw [g1]; exact List.mem_append_right _ (List.mem_append_left _ hg)
    by_cases hq : q = j
    · subst hq
      simp [hlt] at hoq
      subst hoq
      rcases hw with hw | hw
      · exact (h4 g hw).2.1 hgb
      · simp only [Env.bls, if_true] at hw
        rw [List.nodup_append, List.nodup_append] at h3
        rcases List.mem_append.1 hw with hw | hw
        · exact h3.2.2 g hw g (List.mem_append_left _ hg) rfl
        · exact h3.2.1.2.2 g hg g hw rfl
    · rw [List.getElem?_set_ne (Ne.symm hq)] at hoq
      rw [Wb_same (E := E) (E' := E.bls j (A ++ D)) rfl rfl (by simp [Env.bls, hq])] at hw
      exact h.apart j q _ oq g (Ne.symm hq) hj hoq (.inr hgb) hw
  obtain ⟨E', a1, r1⟩ := adV_spec (B := B) (Nat.le_refl B) i1 hfree (List.nodup_append.1 (List.nodup_append.1 h3).2.1).1 (x := .ow ys te tsz tb) (w := w) g4
  rw [List.length_set] at a1 r1
  refine ⟨w, E', Env.le_trans hle a1.le, a1.μ, a1.inv, r1, ?_⟩
  have hb : ∃ g, (E.ov j).ownBlock = some g := by
    rcases h1.2 with ⟨_, hn⟩ | ⟨g, cap, cur, hv, _⟩
    · have : i < xs.length := (List.getElem?_eq_some_iff.1 hi).1
      omega
    · exact ⟨g, by rw [hv]; rfl⟩
  obtain ⟨g, hb⟩ := hb
  have := h1.cells hb _ _ g3
  rw [Addr.add_mid, Nat.zero_add] at this
  rw [← (h4 g hb).1]
  exact this

/-- A cell of a row is written. -/
theorem Inv.nestPut {B : Nat} {E : Env} {ob : List Ob} {W : World} {j i off cap : Nat} {xs : List (List PS)} {row : List PS} {x0 y : PV} {w' : Value} {e : TypeId} {sz by_ : Nat} {cur : Array Value} {t t' : Option (Nat × Nat × Nat × List PS)}
    (h : Inv B E ob W) (hj : ob[j]? = some (.nest xs e sz by_ t)) (hv : E.ov j = .slice (some ⟨E.ρ j, 0, none⟩) xs.length cap) (hg : W.heap[E.ρ j]? = some (.cells cur e (0, 0)))
    (hi : xs[i]? = some row) (hc : pcget row off = some x0) (hy : RepV E.μ y w') (ht : t' = none ∨ ∃ q, t' = some (i, off, q, pcput row off y) ∧ q < E.n ∧ E.ov q = w') :
    ∃ E', E.le E' ∧ E'.μ = E.μ ∧ i * sz + off < cur.size ∧ Inv B E' (ob.set j (.nest (xs.set i (pcput row off y)) e sz by_ t')) (W.setRow (E.ρ j) (cur.toList.set (i * sz + off) w').toArray) := by
  have hlt := (List.getElem?_eq_some_iff.1 hj).1
  have hlti : i < xs.length := (List.getElem?_eq_some_iff.1 hi).1
  have ho := h.obs j _ hj
  obtain ⟨h0, C, h1, h2, h3, h4, h5⟩ := ho
  have hb : (E.ov j).ownBlock = some (E.ρ j) := by rw [hv]; rfl
  obtain ⟨cap', cur0, hv', hB, hg', hnc, hcm, hcs, htake⟩ : ∃ cap' cur0, E.ov j = .slice (some ⟨E.ρ j, 0, none⟩) xs.length cap' ∧ B ≤ E.ρ j ∧ W.heap[E.ρ j]? = some (.cells cur0 e (0, 0)) ∧ xs.length ≤ cap' ∧ cap' ≤ maxLen ∧ cur0.size = cap' * sz ∧ cur0.toList.take (xs.length * sz) = C := by
    rcases h1.2 with ⟨hv', _⟩ | ⟨g, cap', cur0, hv', r1, r2, r3, r4, r5, r6⟩
    · rw [hv'] at hb; cases hb
    · rw [hv'] at hb
      simp only [Value.ownBlock, Option.some.injEq] at hb
      subst hb
      exact ⟨cap', cur0, hv', r1, r2, r3, r4, r5, r6⟩
  rw [hg] at hg'
  cases hg'
  obtain ⟨a4, b4, c4⟩ := h4 _ hb
  have hgr := grownBy_setRow W (E.ρ j) (cur.toList.set (i * sz + off) w').toArray
  have h2' := h2.keep (Mem.le_refl _) hgr (fun g hg' e => b4 (by cases e; exact hg')) (fun g hg' o => (h2.lt g hg').2 o)
  obtain ⟨A, f, D, w, g1, g2, g3, g4, g5⟩ := h2'.cell hi hc
  have hone := RepV.oneCell hy
  have hX := g5 y w' [] (OwnV.of_rep hy)
  rw [List.nil_append] at hX
  rw [g1] at h3
  have hsub : ∀ g, g ∈ A ++ D → g ∈ E.bl j := fun g hg => by
    rw [g1]
    rcases List.mem_append.1 hg with hg | hg
    · exact List.mem_append_left _ hg
    · exact List.mem_append_right _ (List.mem_append_right _ hg)
  have hle := E.le_bls j (A ++ D)
  have hCl : C.length = xs.length * sz := h2.length
  have hfit : i * sz + off < xs.length * sz := by rw [← hCl]; exact (List.getElem?_eq_some_iff.1 g3).1
  have hfit2 : xs.length * sz ≤ cur.size := by rw [hcs]; exact Nat.mul_le_mul_right _ hnc
  have htk : (cur.toList.set (i * sz + off) w').take (xs.length * sz) = C.set (i * sz + off) w' := by
    rw [← htake]
    refine List.ext_getElem? fun q => ?_
    simp only [List.getElem?_take, List.getElem?_set, List.length_take, Array.length_toList]
    split <;> split <;> (try split) <;> (try split) <;> first | rfl | omega
  refine ⟨E.bls j (A ++ D), hle, rfl, by omega, ?_⟩
  refine h.change (k := j) (o' := .nest (xs.set i (pcput row off y)) e sz by_ t') (row := some (E.ρ j)) idS (hle.but j) (by simp [Env.bls, h.n]) (fun q oq hq hoq => ⟨oq, ?_, by cases oq <;> rfl⟩) (by simp [hlt]) (idS_ok hle) hgr
    ⟨h0, C.set (i * sz + off) w', ⟨by simp [hCl], .inr ⟨E.ρ j, cap', (cur.toList.set (i * sz + off) w').toArray, by simp only [Env.bls, List.length_set]; exact hv', hB, setRow_heap W _ _ _ e _ hg, by simpa using hnc, hcm, by simpa using hcs, by simpa using htk⟩⟩, ?_, ?_, fun g hg' => ?_, fun i' off' q' row' e' => ?_⟩
    (fun b o w hm => ?_) (fun b o w hm => .inl hm) (fun g eg q oq hq hoq hwq => ?_) (fun g hg' q oq hq hoq hw => ?_) (fun q _ hq => if_neg hq)
  · rw [List.getElem?_set_ne (Ne.symm hq)] at hoq; exact hoq
  · simp only [Env.bls, if_true]; exact hX
  · simp only [Env.bls, if_true]; exact nodup_sub h3
  · obtain ⟨a, b, c⟩ := h4 g hg'
    refine ⟨a, fun hm => ?_, c⟩
    simp only [Env.bls, if_true] at hm
    exact b (hsub g hm)
  · rcases ht with rfl | ⟨q, rfl, hq1, hq2⟩
    · cases e'
    · cases e'
      refine ⟨g2, hq1, ?_, by simp [hlti]⟩
      rw [List.getElem?_set_self (by omega)]
      exact congrArg some hq2.symm
  · refine hgr.cell (h.mu b o w hm) fun e' => ?_
    have e'' : b = E.ρ j := Option.some.inj e'
    have hm' : E.μ b o = some w := hm
    rw [e'', c4 o] at hm'
    cases hm'
  · cases eg; exact h.apart j q _ oq _ (Ne.symm hq) hj hoq (.inl hb) hwq
  · refine h.apart j q _ oq g (Ne.symm hq) hj hoq ?_ hw
    rcases hg' with hg' | hg'
    · exact .inl hg'
    · simp only [Env.bls, if_true] at hg'
      exact .inr (hsub g hg')

/-- The object whose very value stands in a row becomes the row's. -/
theorem Inv.nestSettle {B : Nat} {E : Env} {ob : List Ob} {W : World} {j i off q : Nat} {xs ys : List (List PS)} {row : List PS} {x0 : PV} {e te : TypeId} {sz by_ tsz tb : Nat}
    (h : Inv B E ob W) (hj : ob[j]? = some (.nest xs e sz by_ (some (i, off, q, row)))) (hq : ob[q]? = some (.arr ys te tsz tb true)) (hc : pcget row off = some x0) :
    ∃ E', E.le E' ∧ E'.μ = E.μ ∧ Inv B E' ((ob.set q .gone).set j (.nest (xs.set i (pcput row off (.ow ys te tsz tb))) e sz by_ none)) W := by
  have hlt := (List.getElem?_eq_some_iff.1 hj).1
  have hjq : j ≠ q := fun e => by subst e; rw [hj] at hq; cases hq
  obtain ⟨hq0, Cq, hq1, hq2, hq3⟩ := h.obs q _ hq
  have i1 : Inv B E (ob.set q .gone) W := by
    refine h.change (k := q) (o' := .gone) (row := none) idS ((Env.le_refl E).but q) (by simp [h.n]) (fun r orr hr hor => ⟨orr, ?_, by cases orr <;> rfl⟩) (by simp [(List.getElem?_eq_some_iff.1 hq).1]) (idS_ok (Env.le_refl _)) (grownBy_refl _ _)
      trivial h.mu (fun b o w hm => .inl hm) (fun g e => by cases e) (fun g hg => by cases hg)
    rw [List.getElem?_set_ne (Ne.symm hr)] at hor; exact hor
  have hj1 : (ob.set q .gone)[j]? = some (.nest xs e sz by_ (some (i, off, q, row))) := by rw [List.getElem?_set_ne (Ne.symm hjq)]; exact hj
  obtain ⟨h0, C, h1, h2, h3, h4, h5⟩ := i1.obs j _ hj1
  obtain ⟨hoff, hqn, hcq, hi⟩ := h5 i off q row rfl
  obtain ⟨A, f, D, w, g1, g2, g3, g4, g5⟩ := h2.cell hi hc
  have hqone : (E.ov q).oneCell' = true := by
    obtain ⟨b, cap, e', _⟩ := ownsRow_len hq1
    rw [e']; rfl
  have hOw : OwnV B E.μ W (.ow ys te tsz tb) (E.ov q) (E.ov q).ownBlock.toList :=
    ⟨hq0, rfl, fun g hg o => (hq3 g (toList_some hg)).2.1 o (.inl rfl), hqone, Cq, hq1, hq2⟩
  have hX := g5 _ _ _ hOw
  rw [set_same hcq] at hX
  have hsub : ∀ g, g ∈ A ++ ((E.ov q).ownBlock.toList ++ D) → g ∈ E.bl j ∨ (E.ov q).ownBlock = some g := fun g hg => by
    rw [g1]
    rcases List.mem_append.1 hg with hg | hg
    · exact .inl (List.mem_append_left _ hg)
    · rcases List.mem_append.1 hg with hg | hg
      · exact .inr (toList_some hg)
      · exact .inl (List.mem_append_right _ (List.mem_append_right _ hg))
  have hnq : ∀ g, (E.ov q).ownBlock = some g → g ∉ E.bl j := fun g hg hm => h.apart q j _ _ g (Ne.symm hjq) hq hj hg (.inr hm)
  have hle := E.le_bls j (A ++ ((E.ov q).ownBlock.toList ++ D))
  refine ⟨_, hle, rfl, ?_⟩
  refine i1.change (k := j) (o' := .nest (xs.set i (pcput row off (.ow ys te tsz tb))) e sz by_ none) (row := none) idS (hle.but j) (by simp [Env.bls, h.n]) (fun q oq hq hoq => ⟨oq, ?_, by cases oq <;> rfl⟩) (by simp [hlt]) (idS_ok hle) (grownBy_refl _ _)
    ⟨h0, C, by simp only [Env.bls, List.length_set]; exact h1, ?_, ?_, fun g hg => ?_, fun _ _ _ _ e => by cases e⟩ h.mu (fun b o w hm => .inl hm) (fun g e => by cases e) (fun g hg r orr hr hor hw => ?_) (fun q _ hq => if_neg hq)
  · rw [List.getElem?_set_ne (Ne.symm hq)] at hoq; exact hoq
  · simp only [Env.bls, if_true]; exact hX
  · simp only [Env.bls, if_true]
    have hm : ∀ g, g ∈ A ∨ g ∈ D → g ∈ E.bl j := fun g hg => by
      rw [g1]
      rcases hg with hg | hg
      · exact List.mem_append_left _ hg
      · exact List.mem_append_right _ (List.mem_append_right _ hg)
    rw [g1] at h3
    rw [List.nodup_append, List.nodup_append] at h3 ⊢
    refine ⟨h3.1, ⟨by cases (E.ov q).ownBlock <;> simp, h3.2.1.2.1, fun a ha b hb e => ?_⟩, fun a ha b hb e => ?_⟩
    · subst e
      exact hnq a (toList_some ha) (hm a (.inr hb))
    · subst e
      rcases List.mem_append.1 hb with hb | hb
      · exact hnq a (toList_some hb) (hm a (.inl ha))
      · exact h3.2.2 a ha a (List.mem_append_right _ hb) rfl
  · obtain ⟨a, b, c⟩ := h4 g hg
    refine ⟨a, fun hm => ?_, c⟩
    simp only [Env.bls, if_true] at hm
    rcases hsub g hm with hm | hm
    · exact b hm
    · exact h.apart q j _ _ g (Ne.symm hjq) hq hj hm (.inl hg)
  · by_cases hrq : r = q
    · subst hrq
      rw [List.getElem?_set_self (List.getElem?_eq_some_iff.1 hq).1] at hor
      cases hor
      exact hw
    · rw [List.getElem?_set_ne (Ne.symm hrq)] at hor
      rcases hg with hg | hg
      · exact h.apart j r _ orr g (Ne.symm hr) hj hor (.inl hg) hw
      · simp only [Env.bls, if_true] at hg
        rcases hsub g hg with hg | hg
        · exact h.apart j r _ orr g (Ne.symm hr) hj hor (.inr hg) hw
        · exact h.apart q r _ orr g (Ne.symm hrq) hq hor hg hw

/-- Rows are laid behind. -/
theorem Inv.nestGrow {P : Program} {B : Nat} {E : Env} {ob : List Ob} {W : World} {k : Nat} {xs ys : List (List PS)} {t ty e : TypeId} {sz bytes : Nat} {lt : Option (Nat × Nat × Nat × List PS)} {i : TypeInfo} {z : Value} {a : Addr} {c : Nat} {news : List Value} {fs : List (Nat × TypeId)}
    (h : Inv B E ob W) (hk : ob[k]? = some (.nest xs e sz bytes lt)) (ht : P.underlying t = some (.slice e)) (hi : P.info? e = some i) (hz : i.zero = some z) (hzs : z.cells.size = i.size) (hisz : i.size = sz)
    (hys : RepX E.μ ys sz news) (hm : 0 < ys.length) (hnews : ∀ j u, news[j]? = some u → W.cell? (a.add j) = some u)
    (h63 : xs.length + ys.length ≤ maxLen) (hbytes : (xs.length + ys.length) * i.bytes ≤ 140737488355328) :
    ∃ v' W' E', (Builtin.append_ #[t, t] ty #[E.ov k, .slice (some a) ys.length c]).run P W = .ok v' W' ∧ E.leBut k E' ∧ E'.n = E.n ∧ Inv B E' ((sweepO k ob).set k (.nest (xs ++ nilRows fs ys) e sz bytes none)) W' ∧
      E'.μ = E.μ ∧ E'.ov k = v' ∧ v'.oneCell' = true ∧ Below B W W' := by
  subst hisz
  have hlt := (List.getElem?_eq_some_iff.1 hk).1
  obtain ⟨h0, C, h1, h2, h3, h4, h5⟩ := h.obs k _ hk
  obtain ⟨v', W', g', hr, ho, hg, hb', hor, hkeep⟩ := run_append_own' (P := P) W B t ty e i z ht hi hz hzs h0 (E.ov k) xs.length C h1 a ys.length c news hys.length hm hnews hys.all_oneCell h63 hbytes h.size
  have hapart : ∀ g, Wb E k (.nest xs e i.size bytes lt) g → ∀ j oj, j ≠ k → ob[j]? = some oj → ¬ Wb E j oj g := fun g hgb j oj hj hoj hw => h.apart k j _ oj g (Ne.symm hj) hk hoj hgb hw
  have hnewg : ∀ j oj, ob[j]? = some oj → W.heap.size ≤ g' → ¬ Wb E j oj g' := fun j oj hoj hge hw => by
    have := ((h.obs j oj hoj).wlt hw).2; omega
  have hapart' : ∀ j oj, j ≠ k → ob[j]? = some oj → ¬ Wb E j oj g' := fun j oj hj hoj hw => by
    rcases hor with hor | hor
    · exact hapart g' (.inl hor) j oj hj hoj hw
    · exact hnewg j oj hoj hor hw
  have hmu' : ∀ o, E.μ g' o = none := fun o => by
    rcases hor with hor | hor
    · exact (h4 g' hor).2.2 o
    · exact mu_lt h hor o
  have hnb : g' ∉ E.bl k := fun hm => by
    rcases hor with hor | hor
    · exact (h4 g' hor).2.1 hm
    · exact hnewg k _ hk hor (.inr hm)
  have hmu0 : ∀ b o w, E.μ b o = some w → W'.cell? ⟨b, o, none⟩ = some w := fun b o w hm => by
    refine hg.cell (h.mu b o w hm) fun e' => ?_
    rw [(h4 b e'.symm).2.2 o] at hm
    cases hm
  have hbel : Below B W W' := (Below.refl B W).grown hg h.size fun g hgk => (h1.lt g hgk).1
  have hv1 : v'.oneCell' = true := by
    obtain ⟨b, cap, e', _⟩ := ownsRow_len ho
    rw [e']; rfl
  have hE : E.leBut k { n := E.n, ρ := fun j => if j = k then g' else E.ρ j, ov := fun j => if j = k then v' else E.ov j, bl := E.bl, μ := E.μ, gok := E.gok } :=
    ⟨Nat.le_refl _, fun j _ hj => by simp [hj], fun j _ hj => by simp [hj], Mem.le_refl _⟩
  have h2' := h2.keep (Mem.le_refl _) hg (fun g hg' e' => (h4 g e'.symm).2.1 hg') (fun g hg' o => (h2.lt g hg').2 o)
  refine ⟨v', W', _, hr, hE, rfl, ?_, rfl, by simp, hv1, hbel⟩
  refine h.change (k := k) (o' := .nest (xs ++ nilRows fs ys) e i.size bytes none) (row := (E.ov k).ownBlock) (swS k) hE (by simp [sweepO_length, h.n]) (fun j oj' hj hoj => ?_) (by simp [sweepO_length, hlt]) (swS_ok hE) hg
    ⟨h0, C ++ news, ?_, ?_, h3, fun g hgk => ?_, fun _ _ _ _ e => by cases e⟩ (fun b o w hm => hmu0 b o w hm) (fun b o w hm => .inl hm) (fun g e' j oj hj hoj => hapart g (.inl e') j oj hj hoj) (fun g hgk j oj hj hoj => ?_)
  · rw [List.getElem?_set_ne (Ne.symm hj), sweepO_get, Option.map_eq_some_iff] at hoj
    obtain ⟨oj, h6, h7⟩ := hoj
    exact ⟨oj, h6, h7.symm⟩
  · simp only [if_true, List.length_append, nilRows_length]; exact ho
  · have := h2'.append (nilRows_spec (B := B) (W := W') (fs := fs) hys)
    rw [List.append_nil] at this
    exact this
  · simp only [if_true] at hgk ⊢
    rw [hb'] at hgk
    cases hgk
    exact ⟨rfl, hnb, hmu'⟩
  · rcases hgk with hgk | hgk
    · simp only [if_true] at hgk
      rw [hb'] at hgk
      cases hgk
      exact hapart' j oj hj hoj
    · exact hapart g (.inr hgk) j oj hj hoj

/-- The first rows alone. -/
theorem Inv.nestCut {B : Nat} {E : Env} {ob : List Ob} {W : World} {k n : Nat} {xs : List (List PS)} {e : TypeId} {sz bytes : Nat} {lt : Option (Nat × Nat × Nat × List PS)}
    (h : Inv B E ob W) (hk : ob[k]? = some (.nest xs e sz bytes lt)) (hn : n ≤ xs.length) :
    ∃ ad cap E', E.ov k = .slice ad xs.length cap ∧ xs.length ≤ cap ∧ E.leBut k E' ∧ E'.n = E.n ∧ Inv B E' ((sweepO k ob).set k (.nest (xs.take n) e sz bytes none)) W ∧ E'.μ = E.μ ∧ E'.ov k = .slice ad n cap := by
  have hlt := (List.getElem?_eq_some_iff.1 hk).1
  obtain ⟨h0, C, h1, h2, h3, h4, h5⟩ := h.obs k _ hk
  obtain ⟨F1, F2, f1, f2⟩ := h2.take n
  have hsub : ∀ g, g ∈ F1 → g ∈ E.bl k := fun g hg => by rw [f1]; exact List.mem_append_left _ hg
  have hCl := h2.length
  have hown : ∃ ad cap, E.ov k = .slice ad xs.length cap ∧ xs.length ≤ cap ∧ W.ownsRow B e sz (.slice ad n cap) n (C.take (n * sz)) ∧ (Value.slice ad n cap).ownBlock = (E.ov k).ownBlock := by
    have hlen : (C.take (n * sz)).length = n * sz := by
      rw [List.length_take, hCl, Nat.min_eq_left (Nat.mul_le_mul_right _ hn)]
    rcases h1.2 with ⟨hv, hn0⟩ | ⟨g, cap, cur, hv, r1, r2, r3, r4, r5, r6⟩
    · have : n = 0 := by omega
      subst this
      exact ⟨none, 0, by rw [hv, hn0], by omega, ⟨hlen, .inl ⟨rfl, rfl⟩⟩, by rw [hv]⟩
    · refine ⟨_, cap, hv, r3, ⟨hlen, .inr ⟨g, cap, cur, rfl, r1, r2, by omega, r4, r5, ?_⟩⟩, by rw [hv]; rfl⟩
      rw [← r6, List.take_take, Nat.min_eq_left (Nat.mul_le_mul_right _ hn)]
  obtain ⟨ad, cap, e1, e2, e3, e4⟩ := hown
  have hE : E.leBut k { n := E.n, ρ := E.ρ, ov := fun j => if j = k then .slice ad n cap else E.ov j, bl := fun j => if j = k then F1 else E.bl j, μ := E.μ, gok := E.gok } :=
    ⟨Nat.le_refl _, fun j _ hj => rfl, fun j _ hj => by simp [hj], Mem.le_refl _⟩
  refine ⟨ad, cap, _, e1, e2, hE, rfl, ?_, rfl, by simp⟩
  refine h.change (k := k) (o' := .nest (xs.take n) e sz bytes none) (row := none) (swS k) hE (by simp [sweepO_length, h.n]) (fun j oj' hj hoj => ?_) (by simp [sweepO_length, hlt]) (swS_ok hE) (grownBy_refl _ _)
    ⟨h0, C.take (n * sz), ?_, ?_, ?_, fun g hgk => ?_, fun _ _ _ _ e => by cases e⟩ h.mu (fun b o w hm => .inl hm) (fun g e' => by cases e') (fun g hgk j oj hj hoj hw => ?_) (fun q _ hq => if_neg hq)
  · rw [List.getElem?_set_ne (Ne.symm hj), sweepO_get, Option.map_eq_some_iff] at hoj
    obtain ⟨oj, h6, h7⟩ := hoj
    exact ⟨oj, h6, h7.symm⟩
  · simp only [if_true]
    have : (xs.take n).length = n := by simp [hn]
    rw [this]; exact e3
  · simp only [if_true]; exact f2
  · simp only [if_true]
    rw [f1, List.nodup_append] at h3
    exact h3.1
  · simp only [if_true, e4] at hgk ⊢
    obtain ⟨a, b, c⟩ := h4 g hgk
    exact ⟨a, fun hm => b (hsub g hm), c⟩
  · refine h.apart k j _ oj g (Ne.symm hj) hk hoj ?_ hw
    rcases hgk with hgk | hgk
    · simp only [if_true, e4] at hgk; exact .inl hgk
    · simp only [if_true] at hgk; exact .inr (hsub g hgk)

/-- A nil slice becomes an own one of rows with own slices, of nothing. -/
theorem Inv.nilNest {B : Nat} {E : Env} {ob : List Ob} {W : World} {e : TypeId} {sz bytes : Nat} (h : Inv B E ob W) (hsz : 0 < sz) :
    Inv B ((E.push 0 (.slice none 0 0)).bls E.n []) (ob ++ [.nest [] e sz bytes none]) W := by
  have hle := Env.le_trans (E.le_push 0 (.slice none 0 0)) ((E.push 0 (.slice none 0 0)).le_bls E.n [])
  have hv : ((E.push 0 (.slice none 0 0)).bls E.n []).ov E.n = .slice none 0 0 := by simp [Env.push, Env.bls]
  have hbl : ((E.push 0 (.slice none 0 0)).bls E.n []).bl E.n = [] := by simp [Env.bls]
  refine h.change (k := E.n) (o' := .nest [] e sz bytes none) (row := none) idS (hle.but _) (by simp [Env.push, Env.bls, h.n]) (fun j oj hj hoj => ⟨oj, ?_, by cases oj <;> rfl⟩) (by rw [h.n]; simp) (idS_ok hle) (grownBy_refl _ _)
    (show OInv B _ W E.n (.nest [] e sz bytes none) from by
      refine ⟨hsz, [], ?_, ?_, ?_, ?_, ?_⟩
      · rw [hv]; exact World.ownsRow_nil _ _ _ _
      · rw [hbl]; exact ⟨rfl, rfl⟩
      · rw [hbl]; exact List.nodup_nil
      · intro g hg; rw [hv] at hg; cases hg
      · intro _ _ _ _ e; cases e)
    h.mu (fun b o w hm => .inl hm) (fun g e => by cases e) (fun g hg => ?_) (fun q hq hqn => ?_)
  · rw [h.n] at hj
    rw [List.getElem?_append] at hoj
    split at hoj
    · exact hoj
    · rename_i hge
      cases hh : j - ob.length with
      | zero => omega
      | succ d => rw [hh] at hoj; simp at hoj
  · rcases hg with hg | hg
    · rw [hv] at hg; cases hg
    · rw [hbl] at hg; simp at hg
  · simp only [Env.bls]
    rw [if_neg hqn]; rfl

/-! ### Operations -/
def nestAt (st : St) : SV → Bool
  | .s (.own j) => match st.ob[j]? with
    | some (.nest _ _ _ _ _) => true
    | _ => false
  | .s (.ept j _ _ _ _) => match st.ob[j]? with
    | some (.nest _ _ _ _ _) => true
    | _ => false
  | _ => false

def pvcell : PV → CV
  | .v x => plain x
  | x => .p x

theorem pvcell_spec {B : Nat} {E : Env} {W : World} {x : PV} {w : Value} {F : List Nat} (h : OwnV B E.μ W x w F) (hx : ∀ a b c d, x ≠ .ow a b c d) (hy : ∀ a s b c d, x ≠ .on a s b c d) : RepK E (pvcell x) w := by
  cases x with
  | v x =>
    have := h.2
    simp only [RepV] at this
    obtain ⟨rfl, h1⟩ := this
    exact RepK.plain h1
  | sl xs s => exact h.2
  | ow a b c d => exact absurd rfl (hx a b c d)
  | on a s b c d => exact absurd rfl (hy a s b c d)

def nIndexP (ar : Ar) (st : St) (t : TypeId) (x i : SV) (k : SV → Prop) : Prop :=
  match i with
  | .s ci => match intOf ci with
    | some (_, n, _) => match (tt t).d with
      | .slice e => match (tt e).d.ok with
        | true => match x with
          | .s (.own j) => match st.ob[j]? with
            | some (.nest xs _ sz _ _) => if sz = (tt e).size then (True → 0 ≤ n ∧ n < (xs.length : Int)) ∧ k (.s (.ept j 0 sz (ar.nat n) 0)) else False
            | _ => False
          | _ => False
        | false => False
      | _ => False
    | none => False
  | _ => False

theorem nIndexP_spec {P : Program} (hT : TTok P) {B : Nat} {E : Env} {st : St} {a : Act} {W : World} {o : Oper} {t : TypeId} {x i : Operand} {k : SV → Prop}
    (h : Inv B E st.ob W) (hF : RepF E st.fr a.tmps.toList) (ho : o.op = .indexAddr t x i) (hk : nIndexP arS st t (st.ev 0 x) (st.ev 0 i) k) : ∃ sv v, k sv ∧ (∀ W, (execOp a.eval o).run P W = .ok (.value v) W) ∧ RepS E sv v := by
  have hx := RepS.ev hF 0 x
  have hi := RepS.ev hF 0 i
  generalize st.ev 0 x = sx at *
  generalize st.ev 0 i = si at *
  unfold nIndexP at hk
  split at hk
  · rename_i ci
    split at hk
    · rename_i kk n l hci
      have ei := intOf_spec hi hci
      split at hk
      · rename_i e hd
        obtain ⟨d, hd1, hd2⟩ := (hT.of_ok (t := t) (by rw [hd]; rfl)).desc
        rw [hd] at hd2
        cases d <;> try exact False.elim hd2
        cases hd2
        split at hk
        · rename_i hoke
          obtain ⟨ti, z, hti, hsz, _⟩ := (hT.of_ok hoke).info
          split at hk
          · rename_i j
            split at hk
            · rename_i xs e' sz by_ lt hj
              split at hk
              · rename_i hszz
                obtain ⟨hs, hk⟩ := hk
                have hs := hs trivial
                rcases (h.obs j _ hj).nestBlk with ⟨_, hn⟩ | ⟨cap, cur, hv, _⟩
                · rw [hn] at hs; simp at hs; omega
                · refine ⟨_, _, hk, fun W => ?_, hx.1, rfl⟩
                  have := run_indexAt_slice (P := P) (W := W) (A := ⟨E.ρ j, 0, none⟩) (len := xs.length) (cap := cap) (kk := kk) hd1 hti hs
                  unfold execOp
                  simp only [ho, hx.2.1, hv, ei]
                  simp [this, Addr.add_mid, hsz, hszz, arS]
              · exact hk.elim
            · exact hk.elim
          · exact hk.elim
        · exact hk.elim
      · exact hk.elim
    · exact hk.elim
  · exact hk.elim

def nLenP (ar : Ar) (st : St) (t : TypeId) (x : SV) (k : SV → Prop) : Prop :=
  match (tt t).d with
  | .slice _ => match x with
    | .s (.own j) => match st.ob[j]? with
      | some (.nest xs _ _ _ _) => k (.s (.p (.v (.int .i64 (ar.len xs)))))
      | _ => False
    | _ => False
  | _ => False

theorem nLenP_spec {P : Program} (hT : TTok P) {B : Nat} {E : Env} {st : St} {a : Act} {W : World} {o : Oper} {t : TypeId} {x : Operand} {k : SV → Prop} (h : Inv B E st.ob W) (hF : RepF E st.fr a.tmps.toList)
    (ho : o.op = .call { callee := .builtin .len, args := #[x], argTypes := #[t] }) (hk : nLenP arS st t (st.ev t x) k) : ∃ sv v, k sv ∧ (∀ W, (execOp a.eval o).run P W = .ok (.value v) W) ∧ RepS E sv v := by
  have hx := RepS.ev hF t x
  generalize st.ev t x = sx at *
  unfold nLenP at hk
  split at hk
  · rename_i e hd
    obtain ⟨d, hd1, hd2⟩ := (hT.of_ok (t := t) (by rw [hd]; rfl)).desc
    rw [hd] at hd2
    cases d <;> try exact False.elim hd2
    cases hd2
    split at hk
    · rename_i j
      split at hk
      · rename_i xs e' sz by_ lt hj
        obtain ⟨_, C, h1, _⟩ := h.obs j _ hj
        obtain ⟨b, cap, ev, _⟩ := ownsRow_len h1
        refine ⟨_, .int .i64 (xs.length : Int), hk, fun W => ?_, rfl, rfl⟩
        have e1 : a.eval x = .slice b xs.length cap := hx.2.1.trans ev
        unfold execOp
        simp only [ho]
        simp [resolve, invoke, builtin, Builtin.len_, run_underlying hd1, goInt, e1]
      · exact hk.elim
    · exact hk.elim
  · exact hk.elim

def nLoadP (ar : Ar) (st : St) (t : TypeId) (p : SV) (k : SV → St → Prop) : Prop :=
  match p with
  | .s (.ept j base sz i off) => match st.ob[j]? with
    | some (.nest xs e sz' by_ _) => if base = 0 ∧ sz = sz' ∧ (tt t).d.ok = true ∧ (tt t).d.agg = false then
        ∃ row, xs[i]? = some row ∧ match pcget row off with
          | some (.ow ys te tsz tb) => ∀ w, k (.s (.own st.ob.length)) ⟨st.fr, st.ob.set j (.nest (ar.setx xs i (pcput row off (.v w))) e sz by_ none) ++ [.arr ys te tsz tb true]⟩
          | some (.on _ _ _ _ _) => False
          | some x => k (.s (pvcell x)) st
          | none => False
      else False
    | _ => False
  | _ => False

theorem nLoadP_spec {P : Program} (hT : TTok P) {B : Nat} {W0 : World} {m0 : Mem} {E : Env} {st : St} {a : Act} {W : World} {o : Oper} {t : TypeId} {p : Operand} {k : SV → St → Prop}
    (h : Sim B W0 m0 E st a W) (ho : o.op = .load t p) (hk : nLoadP arS st t (st.ev 0 p) k) : ∃ sv st' E' v, k sv st' ∧ Sim B W0 m0 E' st' a W ∧ (∀ W', Keeps W W' → (execOp a.eval o).run P W' = .ok (.value v) W') ∧ RepS E' sv v := by
  have hp := RepS.ev h.fr 0 p
  generalize st.ev 0 p = sp at *
  unfold nLoadP at hk
  split at hk
  · rename_i j base sz i off
    split at hk
    · rename_i xs e sz' by_ lt hj
      split at hk
      · rename_i hc
        obtain ⟨rfl, rfl, hok, hag⟩ := hc
        obtain ⟨row, hrow, hk⟩ := hk
        have run : ∀ v, W.cell? ⟨E.ρ j, i * sz + off, none⟩ = some v → ∀ W', Keeps W W' → (execOp a.eval o).run P W' = .ok (.value v) W' := fun v hv W' hW => by
          have := run_load_one (P := P) (W := W') (hT.of_ok hok) hag (hW _ _ hv)
          unfold execOp
          simp only [ho, hp.2, Nat.zero_add]
          simp [this]
        split at hk
        · rename_i ys te tsz tb hc
          obtain ⟨w, E', e1, e2, i1, r1, hcell⟩ := h.inv.nestTake hj hrow hc
          exact ⟨_, _, E', w, hk w, ⟨i1, h.fr.mono e1, h.below, by rw [e2]; exact h.grew, by rw [e2]; exact h.had, h.defers⟩, run w hcell, r1⟩
        · exact hk.elim
        · rename_i x hno hno2 hc
          obtain ⟨h0, C, h1, h2, h3, h4, h5⟩ := h.inv.obs j _ hj
          obtain ⟨A, f, D, w, g1, g2, g3, g4, _⟩ := h2.cell hrow hc
          have hcell : W.cell? ⟨E.ρ j, i * sz + off, none⟩ = some w := by
            rcases h1.2 with ⟨_, hn⟩ | ⟨g, cap, cur, hv, _⟩
            · have : i < xs.length := (List.getElem?_eq_some_iff.1 hrow).1
              omega
            · have hb : (E.ov j).ownBlock = some g := by rw [hv]; rfl
              have := h1.cells hb _ _ g3
              rw [Addr.add_mid, Nat.zero_add] at this
              rw [← (h4 g hb).1]
              exact this
          exact ⟨_, st, E, w, hk, h, run w hcell, pvcell_spec g4 (fun a b c d e => hno a b c d e) (fun a s b c d e => hno2 a s b c d e)⟩
        · exact hk.elim
      · exact hk.elim
    · exact hk.elim
  · exact hk.elim

def nCutP (ar : Ar) (st : St) (t : TypeId) (x : SV) (lo hi : Option Operand) (k : SV → St → Prop) : Prop :=
  match lo with
  | none => match bndOf st hi with
    | some (some bh) => match (tt t).d with
      | .slice e => if (tt e).d.ok = true then
          match x with
          | .s (.own j) => match st.ob[j]? with
            | some (.nest xs e' sz by_ _) => (True → 0 ≤ bh.1 ∧ bh.1 ≤ (xs.length : Int)) ∧ k (.s (.own j)) ⟨sweepF j st.fr, (sweepO j st.ob).set j (.nest (ar.mid xs 0 (natB ar bh)) e' sz by_ none)⟩
            | _ => False
          | _ => False
        else False
      | _ => False
    | _ => False
  | some _ => False

theorem nCutP_spec {P : Program} (hT : TTok P) {B : Nat} {W0 : World} {m0 : Mem} {E : Env} {st : St} {a : Act} {W : World} {o : Oper} {t : TypeId} {x : Operand} {lo hi : Option Operand} {k : SV → St → Prop}
    (hS : Sim B W0 m0 E st a W) (ho : o.op = .slice t x lo hi none) (hk : nCutP arS st t (st.ev 0 x) lo hi k) :
    ∃ sv st' E' v, k sv st' ∧ Sim B W0 m0 E' st' a W ∧ (∀ W', (execOp a.eval o).run P W' = .ok (.value v) W') ∧ RepS E' sv v := by
  have hx := RepS.ev hS.fr 0 x
  generalize st.ev 0 x = sx at *
  unfold nCutP at hk
  split at hk
  · split at hk
    · rename_i bh hbh
      have hh := bndOf_spec hS.fr hbh
      split at hk
      · rename_i e hd
        obtain ⟨d, hd1, hd2⟩ := (hT.of_ok (t := t) (by rw [hd]; rfl)).desc
        rw [hd] at hd2
        cases d <;> try exact False.elim hd2
        cases hd2
        split at hk
        · rename_i hok
          obtain ⟨ti, z, hti, hs1, _⟩ := (hT.of_ok hok).info
          split at hk
          · rename_i j
            split at hk
            · rename_i xs e' sz by_ lt hj
              obtain ⟨hs, hk⟩ := hk
              have hs := hs trivial
              obtain ⟨ad, cap, E', e1, e2, e3, e4, i1, e5, e6⟩ := hS.inv.nestCut (n := bh.1.toNat) hj (by omega)
              have hmid : arS.mid xs 0 (natB arS bh) = xs.take bh.1.toNat := by rw [natB_eq]; simp [arS]
              rw [hmid] at hk
              refine ⟨_, _, E', .slice ad bh.1.toNat cap, hk, ⟨i1, hS.fr.sweep e3, hS.below, by rw [e5]; exact hS.grew, by rw [e5]; exact hS.had, hS.defers⟩, fun W' => ?_, by rw [e4]; exact hx.1, e6.symm, rfl⟩
              have hc : Cuts none (some bh) xs.length cap 0 bh.1.toNat := ⟨rfl, by obtain ⟨q, _⟩ := bh; simp only at *; omega, by omega, by omega, by omega⟩
              have := run_slice_cut (P := P) (ad := ad) (lo := none) W' hd1 hti (vl := none) (show BndIs none none from rfl) hh hc
              have e7 : sliced ad 0 bh.1.toNat cap ti.size = .slice ad bh.1.toNat cap := by
                unfold sliced
                split
                · simp
                · cases ad with
                  | none => simp
                  | some A => cases A; simp [Addr.add]
              rw [e7] at this
              unfold execOp
              simp only [ho, hx.2.1, e1, Option.map_none]
              simp [this]
            · exact hk.elim
          · exact hk.elim
        · exact hk.elim
      · exact hk.elim
    · exact hk.elim
  · exact hk.elim

def nStoreP (ar : Ar) (st : St) (t : TypeId) (p x : SV) (k : SV → St → Prop) : Prop :=
  match p with
  | .s (.ept j base sz i off) => match st.ob[j]? with
    | some (.nest xs e sz' by_ _) => if base = 0 ∧ sz = sz' ∧ (tt t).d.ok = true ∧ (tt t).size = 1 then
        match x with
        | .s (.own q) => match st.ob[q]? with
          | some (.arr _ _ _ _ true) => ∃ row, xs[i]? = some row ∧ match pcget row off with
            | some _ => ∀ w, k .un ⟨st.fr, st.ob.set j (.nest (ar.setx xs i (pcput row off (.v w))) e sz by_ (some (i, off, q, pcput row off (.v w))))⟩
            | none => False
          | _ => False
        | _ => False
      else False
    | _ => False
  | _ => False

theorem nStoreP_spec {P : Program} (hT : TTok P) {B : Nat} {W0 : World} {m0 : Mem} {E : Env} {st : St} {a : Act} {W : World} {o : Oper} {t : TypeId} {p x : Operand} {k : SV → St → Prop} {next : Act → World → Prop} {Q : Exit → Act → World → Prop}
    (h : Sim B W0 m0 E st a W) (ho : o.op = .store t p x) (hk : nStoreP arS st t (st.ev 0 p) (st.ev t x) k) (hn : Nexts false B W0 m0 a W o next k) : o.wp P a W next Q := by
  have hp := RepS.ev h.fr 0 p
  have hx := RepS.ev h.fr t x
  generalize st.ev 0 p = sp at *
  generalize st.ev t x = sx at *
  unfold nStoreP at hk
  split at hk
  · rename_i j base sz i off
    split at hk
    · rename_i xs e sz' by_ lt hj
      split at hk
      · rename_i hc
        obtain ⟨rfl, rfl, hok, hsz⟩ := hc
        split at hk
        · rename_i q
          split at hk
          · rename_i hq
            obtain ⟨row, hrow, hk⟩ := hk
            split at hk
            · rename_i x0 hx0
              have hone : (a.eval x).oneCell' = true := RepK.oneCell (c := .own q) hx
              have hk := hk (a.eval x)
              obtain ⟨ti, z, hti, hsize, _⟩ := (hT.of_ok hok).info
              rcases (h.inv.obs j _ hj).nestBlk with ⟨_, hn0⟩ | ⟨cap, cur, hv, hg, hnc, hcsz, hX, hcm, hB, _⟩
              · rw [hn0] at hrow; simp at hrow
              · obtain ⟨E', e1, e2, e3, i1⟩ := h.inv.nestPut (w' := a.eval x) (y := .v (a.eval x)) hj hv hg hrow hx0 (by rw [RepV]; exact ⟨rfl, hone⟩) (.inr ⟨q, rfl, hx.1, hx.2.1.symm⟩)
                have hcells : (a.eval x).cells = #[a.eval x] := cells_oneCell hone
                have := run_store_box (P := P) (t := t) (v := a.eval x) (off := i * sz + off) hg hti (by rw [hcells]; simp [hsize, hsz]) (by rw [hcells]; simp; omega) (by rw [hcells]; simpa using hone)
                rw [hcells] at this
                have eset : cur.toList.take (i * sz + off) ++ [a.eval x] ++ cur.toList.drop (i * sz + off + 1) = cur.toList.set (i * sz + off) (a.eval x) := by
                  rw [List.set_eq_take_append_cons_drop, if_pos (by simpa using e3)]; simp
                refine wp_skipped (w' := W.setRow (E.ρ j) (cur.toList.set (i * sz + off) (a.eval x)).toArray) ?_ (hn _ _ E' _ _ hk ⟨i1, h.fr.mono e1, below_setRow h.below hB _, by rw [e2]; exact h.grew, by rw [e2]; exact h.had, h.defers⟩ trivial (fun e => by cases e))
                unfold execOp
                simp only [ho, hp.2, Nat.zero_add]
                rw [show (#[a.eval x] : Array Value).toList = [a.eval x] from rfl, show (#[a.eval x] : Array Value).size = 1 from rfl, eset] at this
                simp [this]
            · exact hk.elim
          · exact hk.elim
        · exact hk.elim
      · exact hk.elim
    · exact hk.elim
  · exact hk.elim

def nAppP (ar : Ar) (st : St) (t : TypeId) (s x : SV) (k : SV → St → Prop) : Prop :=
  match (tt t).d with
  | .slice e => if (tt e).d.ok = true ∧ 0 < (tt e).size then
      match x.use ar st.ob with
      | some (.s (.sl ys _), ob') => match s with
        | .s (.own j) => match ob'[j]? with
          | some (.nest xs e' sz by_ _) => if e' = e ∧ sz = (tt e).size ∧ 0 < (tt e).bytes then
              (True → 0 < ys.length ∧ (xs.length + ys.length) * (tt e).bytes ≤ 140737488355328 ∧ ∀ y ∈ ys, rlen y = (tt e).size) ∧
                k (.s (.own j)) ⟨sweepF j st.fr, (sweepO j ob').set j (.nest (ar.app xs (nilRows (fieldsOf e) ys)) e sz by_ none)⟩
            else False
          | _ => False
        | _ => False
      | _ => False
    else False
  | _ => False

theorem nAppP_spec {P : Program} (hT : TTok P) {B : Nat} {W0 : World} {m0 : Mem} {E : Env} {st : St} {a : Act} {W : World} {o : Oper} {t : TypeId} {s x : Operand} {k : SV → St → Prop} {next : Act → World → Prop} {Q : Exit → Act → World → Prop}
    (h : Sim B W0 m0 E st a W) (ho : o.op = .call { callee := .builtin .append, args := #[s, x], argTypes := #[t, t] }) (hk : nAppP arS st t (st.ev 0 s) (st.ev 0 x) k) (hn : Nexts false B W0 m0 a W o next k) : o.wp P a W next Q := by
  have hs := RepS.ev h.fr 0 s
  have hx := RepS.ev h.fr 0 x
  generalize st.ev 0 s = ss at *
  generalize st.ev 0 x = sx at *
  unfold nAppP at hk
  split at hk
  · rename_i e hd
    obtain ⟨d, hd1, hd2⟩ := (hT.of_ok (t := t) (by rw [hd]; rfl)).desc
    rw [hd] at hd2
    cases d <;> try exact False.elim hd2
    cases hd2
    split at hk
    · rename_i hc
      split at hk
      · rename_i ys sp ob' hu
        obtain ⟨E1, e1, i1, r1⟩ := SV.use_spec h.inv hx hu
        have h1 := h.ext e1 i1
        have hs1 := hs.mono e1.le
        split at hk
        · rename_i j
          split at hk
          · rename_i xs e' sz by_ lt hj
            split at hk
            · rename_i hc2
              obtain ⟨rfl, rfl, hby⟩ := hc2
              obtain ⟨hside, hk⟩ := hk
              obtain ⟨hpos, hbound, hrl⟩ := hside trivial
              have hlen : xs.length + ys.length ≤ 140737488355328 := Nat.le_trans (Nat.le_mul_of_pos_right _ hby) hbound
              obtain ⟨ti, z, hti, hz1, hz2, hz, _, hzs⟩ := (hT.of_ok hc.1).info
              have hy : RepV E1.μ (.sl ys sp) (a.eval x) := r1
              rw [RepV] at hy
              obtain ⟨ad, cap, ew, hcap, hel⟩ := hy
              rcases hel with ⟨e0, _⟩ | ⟨b, o', sz', rfl, hE, _⟩
              · rw [e0] at hpos; simp at hpos
              · have hszz : sz' = (tt e').size := by
                  have hx0 : ys[0]? = some (ys[0]'(by omega)) := List.getElem?_eq_getElem _
                  rw [← (hE.get 0 _ hx0).1]
                  exact hrl _ (List.mem_of_getElem? hx0)
                subst hszz
                obtain ⟨news, hX, hnews⟩ := hE.toX
                obtain ⟨v', W', E', hr, g1, g2, g3, g4, g5, g6, g7⟩ := i1.nestGrow (P := P) (t := t) (ty := o.type) (a := ⟨b, o', none⟩) (c := cap) (fs := fieldsOf e') hj hd1 hti hz (by omega) hz1 hX hpos
                  (fun q u hq => by rw [Addr.add_mid]; exact i1.mu _ _ _ (hnews q u hq)) (by simp only [maxLen]; omega) (by rw [hz2]; exact hbound)
                refine wp_value (w' := W') (v := v') ?_ (hn _ _ E' _ _ hk ⟨g3, h1.fr.sweep g1, h1.below.trans g7, by rw [g4]; exact h1.grew, by rw [g4]; exact h1.had, h1.defers⟩ ⟨by rw [g2]; exact hs1.1, g5.symm, g6⟩ (fun e => by cases e))
                have e2 : a.eval s = E1.ov j := hs1.2.1
                rw [← e2, ← ew] at hr
                unfold execOp
                simp only [ho]
                simp [resolve, invoke, builtin, hr]
            · exact hk.elim
          · exact hk.elim
        · exact hk.elim
      · exact hk.elim
    · exact hk.elim
  · exact hk.elim

end Go.Eng
