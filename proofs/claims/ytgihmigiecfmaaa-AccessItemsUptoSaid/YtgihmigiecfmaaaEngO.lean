/-
  Own slices that are handed out: what a call's results mean then, how they become the caller's objects, how a body hands them out.
-/
import Derived.Test.YtgihmigiecfmaaaEngD
namespace Go.Eng
open Go Go.RowKit
set_option linter.unusedVariables false

def OwnR (B : Nat) (m : Mem) (W : World) : PR → Value → List Nat → Prop
  | .s x, w, F => OwnV B m W x w F
  | .a row, w, F => F = [] ∧ ∃ ws : List Value, w = .agg ws.toArray ∧ RepL m row ws
  | .ao row, w, F => ∃ ws : List Value, w = .agg ws.toArray ∧ OwnL B m W row ws F

def OwnRs (B : Nat) (m : Mem) (W : World) : List PR → List Value → List Nat → Prop
  | [], ws, F => ws = [] ∧ F = []
  | p :: ps, ws, F => ∃ w ws' F1 F2, ws = w :: ws' ∧ F = F1 ++ F2 ∧ OwnR B m W p w F1 ∧ OwnRs B m W ps ws' F2

def OwnRes (B : Nat) (m : Mem) (W : World) : List PR → Value → List Nat → Prop
  | [r], w, F => OwnR B m W r w F
  | rs, w, F => ∃ ws : List Value, w = .tuple ws.toArray ∧ OwnRs B m W rs ws F

theorem OwnV.of_rep {B : Nat} {m : Mem} {W : World} : ∀ {x : PV} {w : Value}, RepV m x w → OwnV B m W x w []
  | .v _, _, h => ⟨rfl, h⟩
  | .sl _ _, _, h => ⟨rfl, h⟩
  | .ow _ _ _ _, _, h => by simp only [RepV] at h
  | .on _ _ _ _ _, _, h => by simp only [RepV] at h

section
variable {B B' : Nat} {m : Mem} {W : World}
theorem World.ownsRow.weak {e : TypeId} {sz n : Nat} {w : Value} {C : List Value} (hB : B ≤ B') (hC : W.ownsRow B' e sz w n C) : W.ownsRow B e sz w n C := ⟨hC.1, by
  rcases hC.2 with h' | ⟨g, cap, cur, h1, h2, h3⟩
  · exact .inl h'
  · exact .inr ⟨g, cap, cur, h1, Nat.le_trans hB h2, h3⟩⟩

mutual
theorem OwnV.weak (hB : B ≤ B') : ∀ {x : PV} {w : Value} {F : List Nat}, OwnV B' m W x w F → OwnV B m W x w F
  | .v _, _, _, h => h
  | .sl _ _, _, _, h => h
  | .ow _ _ _ _, _, _, ⟨h1, h2, h3, h4, C, h5, h6⟩ => ⟨h1, h2, h3, h4, C, World.ownsRow.weak hB h5, h6⟩
  | .on _ _ _ _ _, _, _, ⟨h1, ad, cap, C1, C2, G1, G2, h2, h3, h4, h5, h6⟩ => ⟨h1, ad, cap, C1, C2, G1, G2, h2, World.ownsRow.weak hB h3, OwnX.weak hB h4, OwnX.weak hB h5, h6⟩
theorem OwnL.weak (hB : B ≤ B') : ∀ {r : List PS} {ws : List Value} {F : List Nat}, OwnL B' m W r ws F → OwnL B m W r ws F
  | [], _, _, h => h
  | .c _ :: _, _, _, ⟨w, ws', F1, F2, e, eF, hv, hr⟩ => ⟨w, ws', F1, F2, e, eF, OwnV.weak hB hv, OwnL.weak hB hr⟩
  | .r _ _ :: _, _, _, ⟨hl, ho, ws', e, hr⟩ => ⟨hl, ho, ws', e, OwnL.weak hB hr⟩
theorem OwnX.weak (hB : B ≤ B') : ∀ {xs : List (List PS)} {sz : Nat} {C : List Value} {F : List Nat}, OwnX B' m W xs sz C F → OwnX B m W xs sz C F
  | [], _, _, _, h => h
  | _ :: _, _, _, _, ⟨w, C', F1, F2, e, eF, hl, hv, hr⟩ => ⟨w, C', F1, F2, e, eF, hl, OwnL.weak hB hv, OwnX.weak hB hr⟩
end
end

theorem OwnV.oneC {B : Nat} {m : Mem} {W : World} : ∀ {x : PV} {w : Value} {F : List Nat}, OwnV B m W x w F → w.oneCell' = true
  | .v _, _, _, h => RepV.oneCell h.2
  | .sl _ _, _, _, h => RepV.oneCell h.2
  | .ow _ _ _ _, _, _, h => h.2.2.2.1
  | .on _ _ _ _ _, _, _, ⟨_, ad, cap, C1, C2, G1, G2, h2, _⟩ => by rw [h2]; rfl

theorem OwnV.blockIn {B : Nat} {m : Mem} {W : World} {xs s : List (List PS)} {e : TypeId} {sz b : Nat} {w : Value} {F : List Nat} {g : Nat} (h : OwnV B m W (.on xs s e sz b) w F) (hg : w.ownBlock = some g) : g ∈ F := by
  obtain ⟨_, ad, cap, C1, C2, G1, G2, _, _, _, _, e, _⟩ := h
  rw [e, hg]; simp

theorem OwnR.of_rep {B : Nat} {m : Mem} {W : World} : ∀ {x : PR} {w : Value}, RepR m x w → OwnR B m W x w []
  | .s _, _, h => OwnV.of_rep h
  | .a _, _, h => ⟨rfl, h⟩
  | .ao _, _, h => h.elim

theorem OwnRs.of_rep {B : Nat} {m : Mem} {W : World} : ∀ {rs : List PR} {ws : List Value}, RepRs m rs ws → OwnRs B m W rs ws []
  | [], _, h => ⟨h, rfl⟩
  | _ :: _, _, ⟨w, ws', e, hr, hl⟩ => ⟨w, ws', [], [], e, rfl, OwnR.of_rep hr, OwnRs.of_rep hl⟩

theorem OwnRes.of_list {B : Nat} {m : Mem} {W : World} {rs : List PR} {ws : List Value} {F : List Nat} (h : OwnRs B m W rs ws F) : OwnRes B m W rs (if h : ws.toArray.size = 1 then ws.toArray[0] else .tuple ws.toArray) F := by
  match rs, ws, h with
  | [], _, h => rw [show _ = [] from h.1]; exact ⟨[], rfl, rfl, h.2⟩
  | [r], _, ⟨w, ws', F1, F2, e, eF, hr, h'⟩ =>
    rw [show ws' = [] from h'.1] at e
    rw [show F2 = [] from h'.2, List.append_nil] at eF
    subst e; subst eF
    exact hr
  | r :: r' :: rs, _, ⟨w, ws', F1, F2, e, eF, hr, w', ws'', F3, F4, e', eF', hr', h'⟩ =>
    subst e'; subst e
    simp only [List.size_toArray, List.length_cons]
    rw [dif_neg (by omega)]
    exact ⟨_, rfl, w, _, F1, F2, rfl, eF, hr, w', _, F3, F4, rfl, eF', hr', h'⟩

/-! ### Taken over by the caller -/
theorem grownBy_refl (W : World) (r : Option Nat) : W.grownBy W r := ⟨rfl, rfl, rfl, Nat.le_refl _, fun _ _ _ => rfl⟩

def Env.bls (E : Env) (j : Nat) (F : List Nat) : Env := ⟨E.n, E.ρ, E.ov, fun q => if q = j then F else E.bl q, E.μ, E.gok⟩

theorem Env.le_bls (E : Env) (j : Nat) (F : List Nat) : E.le (E.bls j F) := ⟨Nat.le_refl _, fun _ _ => rfl, fun _ _ => rfl, Mem.le_refl _⟩

/-- An own slice whose blocks are free becomes a new object. -/
theorem Inv.addTre {B B' : Nat} {E : Env} {ob : List Ob} {W : World} {xs s : List (List PS)} {e : TypeId} {sz by_ : Nat} {w : Value} {F : List Nat} (hB : B ≤ B') (h : Inv B E ob W) (hf : ∀ g ∈ F, ∀ j oj, ob[j]? = some oj → ¬ Wb E j oj g) (hd : F.Nodup)
    (hv : OwnV B' E.μ W (.on xs s e sz by_) w F) :
    Inv B ((E.push (w.ownBlock.getD 0) w).bls E.n F) (ob ++ [.tre xs s e sz by_ none]) W := by
  have hle := Env.le_trans (E.le_push (w.ownBlock.getD 0) w) ((E.push (w.ownBlock.getD 0) w).le_bls E.n F)
  have hov : ((E.push (w.ownBlock.getD 0) w).bls E.n F).ov E.n = w := by simp [Env.push, Env.bls]
  have hρ : ((E.push (w.ownBlock.getD 0) w).bls E.n F).ρ E.n = w.ownBlock.getD 0 := by simp [Env.push, Env.bls]
  have hbl : ((E.push (w.ownBlock.getD 0) w).bls E.n F).bl E.n = F := by simp [Env.bls]
  refine h.change (k := E.n) (o' := .tre xs s e sz by_ none) (row := none) idS (hle.but _) (by simp [Env.push, Env.bls, h.n]) (fun j oj hj hoj => ⟨oj, ?_, by cases oj <;> rfl⟩) (by rw [h.n]; simp) (idS_ok hle) (grownBy_refl _ _)
    (show OInv B _ W E.n (.tre xs s e sz by_ none) from by
      refine ⟨?_, ?_, ?_, ?_⟩
      · rw [hov, hbl]; exact OwnV.weak hB hv
      · rw [hbl]; exact hd
      · intro g hg; rw [hov] at hg; rw [hρ, hg]; rfl
      · intro _ _ _ _ e; cases e) h.mu (fun b o w hm => .inl hm) (fun g e => by cases e) (fun g hg j oj hj hoj hwj => ?_) (fun q hq hqn => ?_)
  · rw [h.n] at hj
    rw [List.getElem?_append] at hoj
    split at hoj
    · exact hoj
    · rename_i hge
      cases hh : j - ob.length with
      | zero => omega
      | succ d => rw [hh] at hoj; simp at hoj
  · simp only [Wb, hbl] at hg
    exact hf g hg j oj hoj hwj
  · simp only [Env.bls]
    rw [if_neg hqn]; rfl

def Free (E : Env) (ob : List Ob) (F : List Nat) : Prop := ∀ g ∈ F, ∀ j oj, ob[j]? = some oj → ¬ Wb E j oj g

/-- E' is E with more objects. -/
structure Adopts (B : Nat) (W : World) (E : Env) (ob : List Ob) (F : List Nat) (E' : Env) (os : List Ob) : Prop where
  le : E.le E'
  μ : E'.μ = E.μ
  inv : Inv B E' (ob ++ os) W
  free : ∀ F', (∀ g ∈ F', g ∉ F) → Free E ob F' → Free E' (ob ++ os) F'

theorem Adopts.none {B : Nat} {W : World} {E : Env} {ob : List Ob} (h : Inv B E ob W) : Adopts B W E ob [] E [] :=
  ⟨Env.le_refl E, rfl, by simpa using h, fun F' _ hf => by simpa using hf⟩

theorem Adopts.trans {B : Nat} {W : World} {E E1 E2 : Env} {ob os os2 : List Ob} {F1 F2 : List Nat} (h : Adopts B W E ob F1 E1 os) (k : Adopts B W E1 (ob ++ os) F2 E2 os2) : Adopts B W E ob (F1 ++ F2) E2 (os ++ os2) :=
  ⟨Env.le_trans h.le k.le, k.μ.trans h.μ, by rw [← List.append_assoc]; exact k.inv, fun F' hn hf => by
    rw [← List.append_assoc]
    exact k.free F' (fun g hg h2 => hn g hg (List.mem_append_right _ h2)) (h.free F' (fun g hg h1 => hn g hg (List.mem_append_left _ h1)) hf)⟩

theorem adV_spec {B B' : Nat} {E : Env} {ob : List Ob} {W : World} {x : PV} {w : Value} {F : List Nat} (hB : B ≤ B') (h : Inv B E ob W) (hf : Free E ob F) (hd : F.Nodup) (hv : OwnV B' E.μ W x w F) :
    ∃ E', Adopts B W E ob F E' (adV ob.length x).2 ∧ RepK E' (adV ob.length x).1 w := by
  cases x with
  | v x => obtain ⟨rfl, hr⟩ := hv; exact ⟨E, Adopts.none h, hr⟩
  | sl xs s => obtain ⟨rfl, hr⟩ := hv; exact ⟨E, Adopts.none h, hr⟩
  | ow xs e sz by_ =>
    obtain ⟨hpos, rfl, hm, hone, C, hC, hX⟩ := hv
    have hn : ob.length = E.n := h.n.symm
    have hle := E.le_push (w.ownBlock.getD 0) w
    have hov : (E.push (w.ownBlock.getD 0) w).ov E.n = w := by simp [Env.push]
    have hρ : (E.push (w.ownBlock.getD 0) w).ρ E.n = w.ownBlock.getD 0 := by simp [Env.push]
    have hC' : W.ownsRow B e sz w xs.length C := ⟨hC.1, by
      rcases hC.2 with h' | ⟨g, cap, cur, h1, h2, h3⟩
      · exact .inl h'
      · exact .inr ⟨g, cap, cur, h1, Nat.le_trans hB h2, h3⟩⟩
    have i1 : Inv B (E.push (w.ownBlock.getD 0) w) (ob ++ [.arr xs e sz by_ true]) W := by
      refine h.change (k := E.n) (o' := .arr xs e sz by_ true) (row := none) idS (hle.but _) (by simp [Env.push, h.n]) (fun j oj hj hoj => ⟨oj, ?_, by cases oj <;> rfl⟩) (by rw [h.n]; simp) (idS_ok hle) ⟨rfl, rfl, rfl, Nat.le_refl _, fun _ _ _ => rfl⟩
        ⟨hpos, C, by rw [hov]; exact hC', hX, fun g hg => ?_⟩ h.mu (fun b o w hm => .inl hm) (fun g e => by cases e) (fun g hg j oj hj hoj hwj => ?_)
      · rw [h.n] at hj
        rw [List.getElem?_append] at hoj
        split at hoj
        · exact hoj
        · rename_i hge
          cases hh : j - ob.length with
          | zero => omega
          | succ d => rw [hh] at hoj; simp at hoj
      · rw [hov] at hg
        refine ⟨by rw [hρ, hg]; rfl, fun o _ => hm g (by rw [hg]; simp) o, fun e => by cases e⟩
      · simp only [Wb, hov] at hg
        exact hf g (by rw [hg]; simp) j oj hoj hwj
    refine ⟨_, ⟨hle, rfl, i1, fun F' hF' hf' g hg j oj hoj hwj => ?_⟩, ?_⟩
    · rw [show (ob ++ (adV ob.length (.ow xs e sz by_)).2) = ob ++ [.arr xs e sz by_ true] from rfl, List.getElem?_append] at hoj
      split at hoj
      · rename_i hlt
        rw [Wb_same (hle.ρ j (by omega)) (hle.ov j (by omega)) rfl] at hwj
        exact hf' g hg j oj hoj hwj
      · rename_i hge
        cases hh : j - ob.length with
        | zero =>
          rw [hh] at hoj; simp at hoj; subst hoj
          have hj : j = E.n := by omega
          subst hj
          simp only [Wb, hov] at hwj
          exact hF' g hg (by rw [hwj]; simp)
        | succ d => rw [hh] at hoj; simp at hoj
    · exact ⟨by simp [Env.push, hn], by rw [hn, hov], hone⟩
  | on xs s e sz by_ =>
    have hn : ob.length = E.n := h.n.symm
    have hle := Env.le_trans (E.le_push (w.ownBlock.getD 0) w) ((E.push (w.ownBlock.getD 0) w).le_bls E.n F)
    have hov : ((E.push (w.ownBlock.getD 0) w).bls E.n F).ov E.n = w := by simp [Env.push, Env.bls]
    have hbl : ((E.push (w.ownBlock.getD 0) w).bls E.n F).bl E.n = F := by simp [Env.bls]
    refine ⟨_, ⟨hle, rfl, Inv.addTre hB h hf hd hv, fun F' hF' hf' g hg j oj hoj hwj => ?_⟩, ?_⟩
    · rw [show (ob ++ (adV ob.length (.on xs s e sz by_)).2) = ob ++ [.tre xs s e sz by_ none] from rfl, List.getElem?_append] at hoj
      split at hoj
      · rename_i hlt
        rw [Wb_same (hle.ρ j (by omega)) (hle.ov j (by omega)) (by simp only [Env.bls]; rw [if_neg (by omega)]; rfl)] at hwj
        exact hf' g hg j oj hoj hwj
      · rename_i hge
        cases hh : j - ob.length with
        | zero =>
          rw [hh] at hoj; simp at hoj; subst hoj
          have hj : j = E.n := by omega
          subst hj
          simp only [Wb, hbl] at hwj
          exact hF' g hg hwj
        | succ d => rw [hh] at hoj; simp at hoj
    · exact ⟨by simp [Env.push, Env.bls, hn], by rw [hn, hov], hv.oneC⟩

theorem Free.left {E : Env} {ob : List Ob} {F1 F2 : List Nat} (h : Free E ob (F1 ++ F2)) : Free E ob F1 := fun g hg => h g (List.mem_append_left _ hg)
theorem Free.right {E : Env} {ob : List Ob} {F1 F2 : List Nat} (h : Free E ob (F1 ++ F2)) : Free E ob F2 := fun g hg => h g (List.mem_append_right _ hg)

theorem nodup_apart {F1 F2 : List Nat} (h : (F1 ++ F2).Nodup) : ∀ g ∈ F2, g ∉ F1 := fun g h2 h1 => by
  rw [List.nodup_append] at h
  exact h.2.2 g h1 g h2 rfl

theorem adL_spec {B B' : Nat} {W : World} (hB : B ≤ B') : ∀ {row : List PS} {E : Env} {ob : List Ob} {ws : List Value} {F : List Nat}, Inv B E ob W → Free E ob F → F.Nodup → OwnL B' E.μ W row ws F →
    ∃ E', Adopts B W E ob F E' (adL ob.length row).2 ∧ RepG E' (adL ob.length row).1 ws
  | [], E, ob, _, F, h, hf, hd, ⟨e, eF⟩ => by subst e; subst eF; exact ⟨E, Adopts.none h, rfl⟩
  | .c x :: l, E, ob, _, _, h, hf, hd, ⟨w, ws', F1, F2, e, eF, hv, hl⟩ => by
    subst e; subst eF
    obtain ⟨E1, a1, r1⟩ := adV_spec hB h hf.left (List.nodup_append.1 hd).1 hv
    rw [← a1.μ] at hl
    obtain ⟨E2, a2, r2⟩ := adL_spec hB a1.inv (a1.free F2 (nodup_apart hd) hf.right) (List.nodup_append.1 hd).2.1 hl
    rw [List.length_append] at a2 r2
    exact ⟨E2, a1.trans a2, w, ws', rfl, r1.mono a2.le, r2⟩
  | .r n us :: l, E, ob, _, F, h, hf, hd, ⟨hl, ho, ws', e, hr⟩ => by
    subst e
    obtain ⟨E2, a2, r2⟩ := adL_spec hB h hf hd hr
    exact ⟨E2, a2, hl, ho, ws', rfl, r2⟩

theorem adR_spec {B B' : Nat} {W : World} (hB : B ≤ B') {r : PR} {E : Env} {ob : List Ob} {w : Value} {F : List Nat} (h : Inv B E ob W) (hf : Free E ob F) (hd : F.Nodup) (hr : OwnR B' E.μ W r w F) :
    ∃ E', Adopts B W E ob F E' (adR ob.length r).2 ∧ RepS E' (adR ob.length r).1.sv w := by
  cases r with
  | s x => exact adV_spec hB h hf hd hr
  | a row =>
    obtain ⟨rfl, ws, e, hL⟩ := hr
    exact ⟨E, Adopts.none h, ws, e, RepG.of_pure hL⟩
  | ao row =>
    obtain ⟨ws, e, hL⟩ := hr
    obtain ⟨E1, a1, r1⟩ := adL_spec hB h hf hd hL
    exact ⟨E1, a1, ws, e, r1⟩

theorem RepT.cons {E : Env} {t : TR} {w : Value} {l : List TR} {ws : List Value} (h : RepS E t.sv w) (k : RepT E l ws) : RepT E (t :: l) (w :: ws) := by
  cases t with
  | s c => exact ⟨w, ws, rfl, h, k⟩
  | a r => obtain ⟨us, e, hr⟩ := h; subst e; exact ⟨us, ws, rfl, hr, k⟩

theorem RepS.mono' {E E' : Env} (h : E.le E') {t : TR} {w : Value} (r : RepS E t.sv w) : RepS E' t.sv w := r.mono h

theorem adRs_spec {B B' : Nat} {W : World} (hB : B ≤ B') : ∀ {rs : List PR} {E : Env} {ob : List Ob} {ws : List Value} {F : List Nat}, Inv B E ob W → Free E ob F → F.Nodup → OwnRs B' E.μ W rs ws F →
    ∃ E', Adopts B W E ob F E' (adRs ob.length rs).2 ∧ RepT E' (adRs ob.length rs).1 ws
  | [], E, ob, _, F, h, hf, hd, ⟨e, eF⟩ => by subst e; subst eF; exact ⟨E, Adopts.none h, rfl⟩
  | r :: l, E, ob, _, _, h, hf, hd, ⟨w, ws', F1, F2, e, eF, hv, hl⟩ => by
    subst e; subst eF
    obtain ⟨E1, a1, r1⟩ := adR_spec hB h hf.left (List.nodup_append.1 hd).1 hv
    rw [← a1.μ] at hl
    obtain ⟨E2, a2, r2⟩ := adRs_spec hB a1.inv (a1.free F2 (nodup_apart hd) hf.right) (List.nodup_append.1 hd).2.1 hl
    rw [List.length_append] at a2 r2
    exact ⟨E2, a1.trans a2, RepT.cons (r1.mono a2.le) r2⟩

theorem adRes_spec {B B' : Nat} {W : World} (hB : B ≤ B') {rs : List PR} {E : Env} {ob : List Ob} {w : Value} {F : List Nat} (h : Inv B E ob W) (hf : Free E ob F) (hd : F.Nodup) (hr : OwnRes B' E.μ W rs w F) :
    ∃ E', Adopts B W E ob F E' (adRes ob.length rs).2 ∧ RepS E' (adRes ob.length rs).1 w := by
  match rs, hr with
  | [], ⟨ws, e, h'⟩ => 
    obtain ⟨E1, a1, r1⟩ := adRs_spec hB h hf hd h'
    exact ⟨E1, a1, ws, e, r1⟩
  | [r], h' => exact adR_spec hB h hf hd h'
  | _ :: _ :: _, ⟨ws, e, h'⟩ =>
    obtain ⟨E1, a1, r1⟩ := adRs_spec hB h hf hd h'
    exact ⟨E1, a1, ws, e, r1⟩

/-! ### Results that need no memory -/
def plnRow : List PS → Bool
  | [] => true
  | .c (.v _) :: l => plnRow l
  | .r _ _ :: l => plnRow l
  | _ => false

mutual
def shutV : PV → Prop
  | .v _ => True
  | .sl xs s => xs = [] ∧ s = []
  | .ow xs _ _ _ => ∀ x ∈ xs, plnRow x = true
  | .on xs s _ _ _ => shutX xs ∧ shutX s

def shutL : List PS → Prop
  | [] => True
  | .c x :: l => shutV x ∧ shutL l
  | .r _ _ :: l => shutL l

def shutX : List (List PS) → Prop
  | [] => True
  | x :: l => shutL x ∧ shutX l
end

def shutR : PR → Prop
  | .s x => shutV x
  | .a row => shutL row
  | .ao row => shutL row

def shutRs : List PR → Prop
  | [] => True
  | r :: l => shutR r ∧ shutRs l

theorem RepL.flat {m m' : Mem} : ∀ {row : List PS} {ws : List Value}, plnRow row = true → RepL m row ws → RepL m' row ws
  | [], _, _, h => h
  | .c (.v x) :: l, _, hf, ⟨w, ws', e, hv, hr⟩ => ⟨w, ws', e, by simpa only [RepV] using hv, RepL.flat hf hr⟩
  | .c (.sl _ _) :: l, _, hf, _ => by cases hf
  | .c (.ow _ _ _ _) :: l, _, hf, _ => by cases hf
  | .c (.on _ _ _ _ _) :: l, _, hf, _ => by cases hf
  | .r _ _ :: l, _, hf, ⟨hl, ho, ws', e, hr⟩ => ⟨hl, ho, ws', e, RepL.flat hf hr⟩

theorem RepX.flat {m m' : Mem} : ∀ {xs : List (List PS)} {sz : Nat} {C : List Value}, (∀ x ∈ xs, plnRow x = true) → RepX m xs sz C → RepX m' xs sz C
  | [], _, _, _, r => r
  | x :: l, _, _, hf, ⟨w, C', e, hl, hw, hr⟩ => ⟨w, C', e, hl, RepL.flat (hf x (by simp)) hw, RepX.flat (fun y hy => hf y (by simp [hy])) hr⟩

theorem RepV.shut {m m' : Mem} {x : PV} {w : Value} (hs : shutV x) (h : RepV m x w) : RepV m' x w := by
  cases x with
  | v x => simpa only [RepV] using h
  | ow _ _ _ _ => simp only [RepV] at h
  | on _ _ _ _ _ => simp only [RepV] at h
  | sl xs s =>
    obtain ⟨rfl, rfl⟩ := hs
    simp only [RepV] at h ⊢
    obtain ⟨ad, cap, e, hc, _⟩ := h
    exact ⟨ad, cap, e, hc, .inl (by simp)⟩

theorem RepL.shut {m m' : Mem} : ∀ {row : List PS} {ws : List Value}, shutL row → RepL m row ws → RepL m' row ws
  | [], _, _, h => h
  | .c x :: l, _, hf, ⟨w, ws', e, hv, hr⟩ => ⟨w, ws', e, RepV.shut hf.1 hv, RepL.shut hf.2 hr⟩
  | .r _ _ :: l, _, hf, ⟨hl, ho, ws', e, hr⟩ => ⟨hl, ho, ws', e, RepL.shut hf hr⟩

section
variable {B : Nat} {m m' : Mem} {W : World}

mutual
theorem OwnV.shut : ∀ {x : PV} {w : Value} {F : List Nat}, (∀ g ∈ F, ∀ o, m' g o = none) → shutV x → OwnV B m W x w F → OwnV B m' W x w F
  | .v _, _, _, _, hs, h => ⟨h.1, RepV.shut hs h.2⟩
  | .sl _ _, _, _, _, hs, h => ⟨h.1, RepV.shut hs h.2⟩
  | .ow _ _ _ _, _, _, hm, hs, ⟨h1, h2, _, h4, C, h5, h6⟩ => ⟨h1, h2, hm, h4, C, h5, RepX.flat hs h6⟩
  | .on _ _ _ _ _, _, _, hm, hs, ⟨h1, ad, cap, C1, C2, G1, G2, h2, h3, h4, h5, h6, h7⟩ => ⟨h1, ad, cap, C1, C2, G1, G2, h2, h3,
      OwnX.shut (fun g hg => hm g (by rw [h6]; exact List.mem_append_right _ (List.mem_append_left _ hg))) hs.1 h4, OwnX.shut (fun g hg => hm g (by rw [h6]; exact List.mem_append_right _ (List.mem_append_right _ hg))) hs.2 h5, h6,
      fun g hg => hm g (by rw [h6]; exact List.mem_append_left _ hg)⟩

theorem OwnL.shut : ∀ {row : List PS} {ws : List Value} {F : List Nat}, (∀ g ∈ F, ∀ o, m' g o = none) → shutL row → OwnL B m W row ws F → OwnL B m' W row ws F
  | [], _, _, _, _, h => h
  | .c x :: l, _, _, hm, hf, ⟨w, ws', F1, F2, e, eF, hv, hr⟩ => ⟨w, ws', F1, F2, e, eF, OwnV.shut (fun g hg => hm g (by rw [eF]; exact List.mem_append_left _ hg)) hf.1 hv, OwnL.shut (fun g hg => hm g (by rw [eF]; exact List.mem_append_right _ hg)) hf.2 hr⟩
  | .r _ _ :: l, _, _, hm, hf, ⟨hl, ho, ws', e, hr⟩ => ⟨hl, ho, ws', e, OwnL.shut hm hf hr⟩

theorem OwnX.shut : ∀ {xs : List (List PS)} {sz : Nat} {C : List Value} {F : List Nat}, (∀ g ∈ F, ∀ o, m' g o = none) → shutX xs → OwnX B m W xs sz C F → OwnX B m' W xs sz C F
  | [], _, _, _, _, _, h => h
  | x :: l, _, _, _, hm, hf, ⟨w, C', F1, F2, e, eF, hl, hv, hr⟩ => ⟨w, C', F1, F2, e, eF, hl, OwnL.shut (fun g hg => hm g (by rw [eF]; exact List.mem_append_left _ hg)) hf.1 hv, OwnX.shut (fun g hg => hm g (by rw [eF]; exact List.mem_append_right _ hg)) hf.2 hr⟩
end

theorem OwnR.shut {r : PR} {w : Value} {F : List Nat} (hm : ∀ g ∈ F, ∀ o, m' g o = none) (hs : shutR r) (h : OwnR B m W r w F) : OwnR B m' W r w F := by
  cases r with
  | s x => exact OwnV.shut hm hs h
  | a row => obtain ⟨h1, ws, e, h2⟩ := h; exact ⟨h1, ws, e, RepL.shut hs h2⟩
  | ao row => obtain ⟨ws, e, h2⟩ := h; exact ⟨ws, e, OwnL.shut hm hs h2⟩

theorem OwnRs.shut : ∀ {rs : List PR} {ws : List Value} {F : List Nat}, (∀ g ∈ F, ∀ o, m' g o = none) → shutRs rs → OwnRs B m W rs ws F → OwnRs B m' W rs ws F
  | [], _, _, _, _, h => h
  | r :: l, _, _, hm, hf, ⟨w, ws', F1, F2, e, eF, hv, hr⟩ => ⟨w, ws', F1, F2, e, eF, hv.shut (fun g hg => hm g (by rw [eF]; exact List.mem_append_left _ hg)) hf.1, OwnRs.shut (fun g hg => hm g (by rw [eF]; exact List.mem_append_right _ hg)) hf.2 hr⟩

theorem OwnRes.shut {rs : List PR} {w : Value} {F : List Nat} (hm : ∀ g ∈ F, ∀ o, m' g o = none) (hs : shutRs rs) (h : OwnRes B m W rs w F) : OwnRes B m' W rs w F := by
  match rs, h with
  | [], ⟨ws, e, h'⟩ => exact ⟨ws, e, OwnRs.shut hm hs h'⟩
  | [r], h' => exact OwnR.shut hm hs.1 h'
  | _ :: _ :: _, ⟨ws, e, h'⟩ => exact ⟨ws, e, OwnRs.shut hm hs h'⟩
end

/-! The blocks of results lie in new memory. -/
section
variable {B : Nat} {m : Mem} {W : World}

theorem OwnV.new {x : PV} {w : Value} {F : List Nat} (h : OwnV B m W x w F) : ∀ g ∈ F, B ≤ g ∧ ∀ o, m g o = none := fun g hg => ⟨(h.lt g hg).1.1, (h.lt g hg).2⟩

theorem OwnL.new {row : List PS} {ws : List Value} {F : List Nat} (h : OwnL B m W row ws F) : ∀ g ∈ F, B ≤ g ∧ ∀ o, m g o = none := fun g hg => ⟨(h.lt g hg).1.1, (h.lt g hg).2⟩

theorem OwnR.new {r : PR} {w : Value} {F : List Nat} (h : OwnR B m W r w F) : ∀ g ∈ F, B ≤ g ∧ ∀ o, m g o = none := by
  cases r with
  | s x => exact OwnV.new h
  | a row => rw [h.1]; simp
  | ao row => obtain ⟨ws, e, h2⟩ := h; exact OwnL.new h2

theorem OwnRs.new : ∀ {rs : List PR} {ws : List Value} {F : List Nat}, OwnRs B m W rs ws F → ∀ g ∈ F, B ≤ g ∧ ∀ o, m g o = none
  | [], _, _, h, g, hg => by rw [h.2] at hg; simp at hg
  | r :: l, _, _, ⟨w, ws', F1, F2, e, eF, hv, hr⟩, g, hg => by
    rw [eF] at hg
    rcases List.mem_append.1 hg with hg | hg
    · exact OwnR.new hv g hg
    · exact OwnRs.new hr g hg

theorem OwnRes.new {rs : List PR} {w : Value} {F : List Nat} (h : OwnRes B m W rs w F) : ∀ g ∈ F, B ≤ g ∧ ∀ o, m g o = none := by
  match rs, h with
  | [], ⟨ws, e, h'⟩ => exact OwnRs.new h'
  | [r], h' => exact OwnR.new h'
  | _ :: _ :: _, ⟨ws, e, h'⟩ => exact OwnRs.new h'
end

/-! ### Handed out by a body -/
def CV.keep (ar : Ar) (ob : List Ob) : CV → Option (CV × List Ob)
  | .own k => match ob[k]? with
    | some (.arr _ _ _ _ true) => some (.own k, ob)
    | some (.tre _ _ _ _ _ _) => some (.own k, ob)
    | _ => match (CV.own k).use ar ob with | some (x, ob') => some (.p x, ob') | none => none
  | c => match c.use ar ob with | some (x, ob') => some (.p x, ob') | none => none

def keepRow (ar : Ar) (ob : List Ob) : List Seg → Option (List Seg × List Ob)
  | [] => some ([], ob)
  | .c x :: l => match x.keep ar ob with
    | some (y, ob') => match keepRow ar ob' l with | some (ps, ob'') => some (.c y :: ps, ob'') | none => none
    | none => none
  | .r n ws :: l => match keepRow ar ob l with | some (ps, ob') => some (.r n ws :: ps, ob') | none => none

def SV.keep (ar : Ar) (ob : List Ob) : SV → Option (SV × List Ob)
  | .s c => match c.keep ar ob with | some (x, ob') => some (.s x, ob') | none => none
  | .a row => match keepRow ar ob row with | some (ps, ob') => some (.a ps, ob') | none => none
  | _ => none

def keepAll (ar : Ar) (ob : List Ob) : List SV → Option (List SV × List Ob)
  | [] => some ([], ob)
  | x :: l => match x.keep ar ob with
    | some (y, ob') => match keepAll ar ob' l with | some (ys, ob'') => some (y :: ys, ob'') | none => none
    | none => none

theorem CV.keep_spec {B : Nat} {E : Env} {ob ob' : List Ob} {W : World} {c x : CV} {w : Value} (h : Inv B E ob W) (hk : RepK E c w) (hu : c.keep arS ob = some (x, ob')) :
    ∃ E', Ext B E E' ∧ Inv B E' ob' W ∧ RepK E' x w := by
  have main : ∀ {c : CV}, RepK E c w → (match c.use arS ob with | some (x, ob') => some (CV.p x, ob') | none => none) = some (x, ob') → ∃ E', Ext B E E' ∧ Inv B E' ob' W ∧ RepK E' x w := fun {c} hk hu => by
    split at hu
    · rename_i y ob1 h1
      cases hu
      exact CV.use_spec h hk h1
    · cases hu
  unfold CV.keep at hu
  split at hu
  · split at hu
    · cases hu; exact ⟨E, Ext.refl B E, h, hk⟩
    · cases hu; exact ⟨E, Ext.refl B E, h, hk⟩
    · exact main hk hu
  · exact main hk hu

theorem keepRow_spec {B : Nat} {W : World} : ∀ {row : List Seg} {E : Env} {ob ob' : List Ob} {ws : List Value} {ps : List Seg}, Inv B E ob W → RepG E row ws → keepRow arS ob row = some (ps, ob') →
    ∃ E', Ext B E E' ∧ Inv B E' ob' W ∧ RepG E' ps ws
  | [], E, _, _, _, _, h, hr, hu => by cases hu; exact ⟨E, Ext.refl B E, h, hr⟩
  | .c x :: l, E, ob, ob', _, ps, h, ⟨w, ws', e, hv, hr⟩, hu => by
    simp only [keepRow] at hu
    split at hu
    · rename_i y ob1 h1
      split at hu
      · rename_i qs ob2 h2
        cases hu
        obtain ⟨E1, e1, i1, r1⟩ := CV.keep_spec h hv h1
        obtain ⟨E2, e2, i2, r2⟩ := keepRow_spec i1 (hr.mono e1.le) h2
        exact ⟨E2, e1.trans e2, i2, w, ws', e, r1.mono e2.le, r2⟩
      · cases hu
    · cases hu
  | .r n us :: l, E, ob, ob', _, ps, h, ⟨hl, ho, ws', e, hr⟩, hu => by
    simp only [keepRow] at hu
    split at hu
    · rename_i qs ob2 h2
      cases hu
      obtain ⟨E2, e2, i2, r2⟩ := keepRow_spec h hr h2
      exact ⟨E2, e2, i2, hl, ho, ws', e, r2⟩
    · cases hu

theorem SV.keep_spec {B : Nat} {E : Env} {ob ob' : List Ob} {W : World} {c x : SV} {w : Value} (h : Inv B E ob W) (hk : RepS E c w) (hu : c.keep arS ob = some (x, ob')) :
    ∃ E', Ext B E E' ∧ Inv B E' ob' W ∧ RepS E' x w := by
  cases c with
  | un => cases hu
  | ud => cases hu
  | t _ => cases hu
  | s c =>
    simp only [SV.keep] at hu
    split at hu
    · rename_i y ob1 h1
      cases hu
      exact CV.keep_spec h hk h1
    · cases hu
  | a row =>
    simp only [SV.keep] at hu
    split at hu
    · rename_i y ob1 h1
      cases hu
      obtain ⟨ws, e, hr⟩ := hk
      obtain ⟨E1, e1, i1, r1⟩ := keepRow_spec h hr h1
      exact ⟨E1, e1, i1, ws, e, r1⟩
    · cases hu

theorem keepAll_spec {B : Nat} {W : World} : ∀ {xs ys : List SV} {E : Env} {ob ob' : List Ob} {ws : List Value}, Inv B E ob W → RepF E xs ws → keepAll arS ob xs = some (ys, ob') →
    ∃ E', Ext B E E' ∧ Inv B E' ob' W ∧ RepF E' ys ws
  | [], _, E, _, _, _, h, hr, hu => by cases hu; exact ⟨E, Ext.refl B E, h, hr⟩
  | x :: l, _, E, ob, ob', _, h, ⟨w, ws', e, hv, hr⟩, hu => by
    simp only [keepAll] at hu
    split at hu
    · rename_i y ob1 h1
      split at hu
      · rename_i qs ob2 h2
        cases hu
        obtain ⟨E1, e1, i1, r1⟩ := SV.keep_spec h hv h1
        obtain ⟨E2, e2, i2, r2⟩ := keepAll_spec i1 (hr.mono e1.le) h2
        exact ⟨E2, e1.trans e2, i2, w, ws', e, r1.mono e2.le, r2⟩
      · cases hu
    · cases hu

def handV (ob : List Ob) : CV → Option (PV × List Nat)
  | .own k => match ob[k]? with
    | some (.arr xs e sz by_ true) => some (.ow xs e sz by_, [k])
    | some (.tre xs s e sz by_ _) => some (.on xs s e sz by_, [k])
    | _ => none
  | .p x => some (x, [])
  | _ => none

def handL (ob : List Ob) : List Seg → Option (List PS × List Nat)
  | [] => some ([], [])
  | .c x :: l => match handV ob x with
    | some (y, ks) => match handL ob l with | some (ps, ks') => some (.c y :: ps, ks ++ ks') | none => none
    | none => none
  | .r n ws :: l => match handL ob l with | some (ps, ks) => some (.r n ws :: ps, ks) | none => none

def handR (ob : List Ob) : SV → Option (PR × List Nat)
  | .s c => match handV ob c with | some (x, ks) => some (.s x, ks) | none => none
  | .a row => match handL ob row with | some (ps, ks) => some (.ao ps, ks) | none => none
  | _ => none

def handAll (ob : List Ob) : List SV → Option (List PR × List Nat)
  | [] => some ([], [])
  | x :: l => match handR ob x with
    | some (y, ks) => match handAll ob l with | some (ys, ks') => some (y :: ys, ks ++ ks') | none => none
    | none => none

def nodupB : List Nat → Bool
  | [] => true
  | k :: l => !(l.any (· == k)) && nodupB l

theorem nodupB_spec : ∀ {l : List Nat}, nodupB l = true → l.Nodup
  | [], _ => List.nodup_nil
  | k :: l, h => by
    simp only [nodupB, Bool.and_eq_true, Bool.not_eq_true', List.any_eq_false, beq_iff_eq] at h
    exact List.nodup_cons.2 ⟨fun hm => h.1 k hm rfl, nodupB_spec h.2⟩

/-- The blocks of the own slice k. -/
def bof (ob : List Ob) (E : Env) (k : Nat) : List Nat :=
  match ob[k]? with
  | some (.tre _ _ _ _ _ _) => E.bl k
  | _ => (E.ov k).ownBlock.toList

/-- The blocks of the own slices ks. -/
def blks (ob : List Ob) (E : Env) : List Nat → List Nat
  | [] => []
  | k :: l => bof ob E k ++ blks ob E l

theorem blks_append {ob : List Ob} {E : Env} : ∀ {a b : List Nat}, blks ob E (a ++ b) = blks ob E a ++ blks ob E b
  | [], _ => rfl
  | k :: l, b => by simp [blks, blks_append]

/-- Own slices that may be written. -/
def Arrs (ob : List Ob) (ks : List Nat) : Prop := ∀ k ∈ ks, (∃ xs e sz by_, ob[k]? = some (.arr xs e sz by_ true)) ∨ ∃ xs s e sz by_ t, ob[k]? = some (.tre xs s e sz by_ t)

theorem Arrs.wb {ob : List Ob} {E : Env} {ks : List Nat} {k g : Nat} (h : Arrs ob ks) (hk : k ∈ ks) (hg : g ∈ bof ob E k) : ∃ o, ob[k]? = some o ∧ Wb E k o g := by
  rcases h k hk with ⟨xs, e, sz, by_, ho⟩ | ⟨xs, s, e, sz, by_, t, ho⟩
  · refine ⟨_, ho, ?_⟩
    simp only [bof, ho] at hg
    exact toList_some hg
  · refine ⟨_, ho, ?_⟩
    simp only [bof, ho] at hg
    exact hg

theorem mem_blks {ob : List Ob} {E : Env} : ∀ {ks : List Nat} {g : Nat}, g ∈ blks ob E ks → ∃ k ∈ ks, g ∈ bof ob E k
  | [], _, h => by simp [blks] at h
  | k :: l, g, h => by
    simp only [blks, List.mem_append] at h
    rcases h with h | h
    · exact ⟨k, by simp, h⟩
    · obtain ⟨j, hj, e⟩ := mem_blks h
      exact ⟨j, by simp [hj], e⟩

theorem bof_nodup {B : Nat} {E : Env} {ob : List Ob} {W : World} (h : Inv B E ob W) (k : Nat) : (bof ob E k).Nodup := by
  unfold bof
  split
  · rename_i ho
    exact (h.obs k _ ho).2.1
  · cases (E.ov k).ownBlock <;> simp

theorem blks_nodup {B : Nat} {E : Env} {ob : List Ob} {W : World} (h : Inv B E ob W) : ∀ {ks : List Nat}, ks.Nodup → Arrs ob ks → (blks ob E ks).Nodup
  | [], _, _ => List.nodup_nil
  | k :: l, hd, ha => by
    simp only [blks]
    rw [List.nodup_cons] at hd
    refine List.nodup_append.2 ⟨bof_nodup h k, blks_nodup h hd.2 (fun j hj => ha j (by simp [hj])), fun a h1 b h2 e => ?_⟩
    subst e
    obtain ⟨j, hj, e2⟩ := mem_blks h2
    obtain ⟨o1, g1, g2⟩ := ha.wb (by simp) h1
    obtain ⟨o2, g3, g4⟩ := ha.wb (List.mem_cons_of_mem _ hj) e2
    exact h.apart k j _ _ a (fun e => hd.1 (by rw [e]; exact hj)) g1 g3 g2 g4

theorem handV_spec {B : Nat} {E : Env} {ob : List Ob} {W : World} {c : CV} {w : Value} {x : PV} {ks : List Nat} (h : Inv B E ob W) (hk : RepK E c w) (hh : handV ob c = some (x, ks)) : OwnV B E.μ W x w (blks ob E ks) ∧ Arrs ob ks := by
  unfold handV at hh
  split at hh
  · rename_i k
    split at hh
    · rename_i xs e sz by_ hob
      cases hh
      obtain ⟨h0, C, h1, h2, h3⟩ := h.obs k _ hob
      obtain ⟨_, rfl, ho⟩ := hk
      refine ⟨⟨h0, by simp [blks, bof, hob], fun g hg o => ?_, ho, C, h1, h2⟩, fun j hj => ?_⟩
      · obtain ⟨j, hj, e2⟩ := mem_blks hg
        simp at hj; subst hj
        simp only [bof, hob] at e2
        exact (h3 g (toList_some e2)).2.1 o (.inl rfl)
      · simp at hj; subst hj; exact .inl ⟨_, _, _, _, hob⟩
    · rename_i xs s e sz by_ t hob
      cases hh
      obtain ⟨_, rfl, ho⟩ := hk
      refine ⟨?_, fun j hj => ?_⟩
      · simp only [blks, bof, hob, List.append_nil]
        exact (h.obs k _ hob).1
      · simp at hj; subst hj; exact .inr ⟨_, _, _, _, _, _, hob⟩
    · cases hh
  · cases hh
    exact ⟨OwnV.of_rep hk, fun j hj => by simp at hj⟩
  · cases hh

theorem Arrs.append {ob : List Ob} {a b : List Nat} (h : Arrs ob a) (k : Arrs ob b) : Arrs ob (a ++ b) := fun j hj => (List.mem_append.1 hj).elim (h j) (k j)

theorem handL_spec {B : Nat} {E : Env} {ob : List Ob} {W : World} (h : Inv B E ob W) : ∀ {row : List Seg} {ws : List Value} {ps : List PS} {ks : List Nat}, RepG E row ws → handL ob row = some (ps, ks) → OwnL B E.μ W ps ws (blks ob E ks) ∧ Arrs ob ks
  | [], _, _, _, hr, hh => by cases hh; exact ⟨⟨hr, rfl⟩, fun j hj => by simp at hj⟩
  | .c x :: l, _, _, _, ⟨w, ws', e, hv, hr⟩, hh => by
    simp only [handL] at hh
    split at hh
    · rename_i y k1 h1
      split at hh
      · rename_i qs k2 h2
        cases hh
        obtain ⟨a1, b1⟩ := handV_spec h hv h1
        obtain ⟨a2, b2⟩ := handL_spec h hr h2
        exact ⟨⟨w, ws', _, _, e, blks_append, a1, a2⟩, b1.append b2⟩
      · cases hh
    · cases hh
  | .r n us :: l, _, _, _, ⟨hl, ho, ws', e, hr⟩, hh => by
    simp only [handL] at hh
    split at hh
    · rename_i qs k2 h2
      cases hh
      obtain ⟨a2, b2⟩ := handL_spec h hr h2
      exact ⟨⟨hl, ho, ws', e, a2⟩, b2⟩
    · cases hh

theorem handR_spec {B : Nat} {E : Env} {ob : List Ob} {W : World} {c : SV} {w : Value} {x : PR} {ks : List Nat} (h : Inv B E ob W) (hk : RepS E c w) (hh : handR ob c = some (x, ks)) : OwnR B E.μ W x w (blks ob E ks) ∧ Arrs ob ks := by
  unfold handR at hh
  split at hh
  · split at hh
    · rename_i h1; cases hh; exact handV_spec h hk h1
    · cases hh
  · split at hh
    · rename_i h1
      cases hh
      obtain ⟨ws, e, hr⟩ := hk
      obtain ⟨a1, b1⟩ := handL_spec h hr h1
      exact ⟨⟨ws, e, a1⟩, b1⟩
    · cases hh
  · cases hh

theorem handAll_spec {B : Nat} {E : Env} {ob : List Ob} {W : World} (h : Inv B E ob W) : ∀ {svs : List SV} {ws : List Value} {prs : List PR} {ks : List Nat}, RepF E svs ws → handAll ob svs = some (prs, ks) → OwnRs B E.μ W prs ws (blks ob E ks) ∧ Arrs ob ks
  | [], _, _, _, hr, hh => by cases hh; exact ⟨⟨hr, rfl⟩, fun j hj => by simp at hj⟩
  | x :: l, _, _, _, ⟨w, ws', e, hv, hr⟩, hh => by
    simp only [handAll] at hh
    split at hh
    · rename_i y k1 h1
      split at hh
      · rename_i qs k2 h2
        cases hh
        obtain ⟨a1, b1⟩ := handR_spec h hv h1
        obtain ⟨a2, b2⟩ := handAll_spec h hr h2
        exact ⟨⟨w, ws', _, _, e, blks_append, a1, a2⟩, b1.append b2⟩
      · cases hh
    · cases hh

end Go.Eng
