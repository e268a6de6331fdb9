/-
  What a transaction is written as is read as the same (there and back). No program in sight.
  There and back, and no written text begins another one. No program in sight.
  The law's own functions: which, copied (its answer is the caller's own). Condition: at most 2^40 elements.
-/
import Derived.Test.YtnaafeeloicklaaDoorGB
import Derived.Test.YtnaafeeloicklaaDoorGC
namespace Go.Eng
open Go Go.Proofs
set_option maxRecDepth 100000
set_option linter.unusedVariables false

theorem encR_more {t : Tx} (h : (encR t).2 = 0) : draftE t = 0 ∧ signB t = true ∧ errOf (It.lst (itsL t (txFs t.ty))) = 0 ∧ (preB t.ty).length + (enc (It.lst (itsL t (txFs t.ty)))).length ≤ 16777216 := by
  have h0 := h
  unfold encR at h0
  split at h0
  · rename_i h1; exact absurd h0 h1
  · rename_i h1
    split at h0
    · cases h0
    · rename_i h2
      split at h0
      · rename_i h3; exact absurd h0 h3
      · rename_i h3
        split at h0
        · cases h0
        · rename_i h4
          have h3 : (itsR t (txFs t.ty)).2 = 0 := by
            by_cases e : (itsR t (txFs t.ty)).2 = 0
            · exact e
            · exact absurd e h3
          obtain ⟨e1, e2, e3⟩ := itsR_ok h3
          rw [e1] at h4
          refine ⟨?_, by simpa using h2, e2, by omega⟩
          by_cases e : draftE t = 0
          · exact e
          · exact absurd e h1

theorem txt_byt {d : List Int} (h : bytesOk d) : (It.txt d).byt := ⟨h, trivial⟩
theorem lst_byt {its : List It} (h : byts its) : (It.lst its).byt := ⟨fun x hx => (by cases hx), h⟩
theorem ksIts_byt {ks : List (List Int)} (h : ∀ w ∈ ks, bytesOk w) : byts (ksIts ks) := byts_of fun x hx => by
  rw [ksIts, List.mem_map] at hx
  obtain ⟨w, hw, rfl⟩ := hx
  exact txt_byt (h w hw)
theorem esIts_byt {es : List Ent} (h : ∀ e ∈ es, bytesOk e.a ∧ ∀ w ∈ e.ks, bytesOk w) : byts (esIts es) := byts_of fun x hx => by
  rw [esIts, List.mem_map] at hx
  obtain ⟨e, he, rfl⟩ := hx
  exact lst_byt ⟨txt_byt (h e he).1, lst_byt (ksIts_byt (h e he).2), trivial⟩
theorem zero_byt : It.zero.byt := ⟨fun x hx => (by cases hx), trivial⟩
theorem itemP_byt {t : Tx} (h : t.ok) (f : Int) : (itemP t f).1.byt := by
  have num : ∀ n, (numIt n).byt := fun n => txt_byt (numB_byt n)
  have h0 : bytesOk [] := fun x hx => by cases hx
  have fit : ∀ it : It, it.byt → (fitP it).1.byt := fun it hb => by
    unfold fitP; split
    · exact hb
    · exact zero_byt
  unfold itemP
  (repeat' split)
  · exact num _
  · exact num _
  · exact num _
  · exact txt_byt h0
  · exact txt_byt h.tob
  · exact txt_byt h.db
  · exact fit _ (lst_byt (esIts_byt fun e he => ⟨(h.ac e he).2.1, fun w hw => ((h.ac e he).2.2 w hw).2⟩))
  · exact lst_byt (ksIts_byt fun w hw => (h.bl w hw).2)
  · exact zero_byt
  · exact fit _ (us_byt fun u hu => (h.au u hu).2)
  · exact num _
theorem itsL_byt {t : Tx} (h : t.ok) (fs : List Int) : byts (itsL t fs) := byts_of fun x hx => by
  rw [itsL, List.mem_map] at hx
  obtain ⟨f, _, rfl⟩ := hx
  exact itemP_byt h f

/-- What reading a field of t does. -/
def setF (u t : Tx) (f : Int) : Tx :=
  if f = 0 then { u with ch := t.ch } else if f = 1 then { u with no := t.no } else if f = 5 then { u with ga := t.ga }
  else if f = 6 then (if t.cr = true then { u with cr := true } else { u with to := t.to }) else if f = 8 then { u with d := t.d, sd := [] }
  else if f = 9 then { u with ac := t.ac.map Ent.bare, sac := [] } else if f = 11 then { u with bl := t.bl, sbl := [] } else if f = 12 then { u with au := t.au, sau := [] }
  else setNum u f (numF t f)
theorem blobE_txt : ∀ {l : List (List Int)}, (∀ w ∈ l, w.length = 32) → blobE (ksIts l) = 0 ∧ blobL (ksIts l) = l
  | [], _ => ⟨rfl, rfl⟩
  | w :: l, h => by
    obtain ⟨h1, h2⟩ := blobE_txt (l := l) fun x hx => h x (by simp [hx])
    have hw := getFixed_txt (n := 32) (h w (by simp))
    show blobE (It.txt w :: ksIts l) = 0 ∧ blobL (It.txt w :: ksIts l) = w :: l
    refine ⟨?_, ?_⟩
    · rw [blobE, if_pos (by rw [hw]), h1]
    · show ((It.txt w).getFixed 32).1 :: blobL (ksIts l) = _
      rw [hw, h2]
theorem readF_set {t : Tx} (h : t.ok) (u : Tx) {f : Int} (hf : 0 ≤ f ∧ f ≤ 15) (h0 : (itemP t f).2 = 0) : readF u f (itemP t f).1 = .ok (setF u t f) := by
  have cs : f = 0 ∨ f = 1 ∨ f = 2 ∨ f = 3 ∨ f = 4 ∨ f = 5 ∨ f = 6 ∨ f = 7 ∨ f = 8 ∨ f = 9 ∨ f = 10 ∨ f = 11 ∨ f = 12 ∨ f = 13 ∨ f = 14 ∨ f = 15 := by omega
  have n8 : ∀ n, n < 18446744073709551616 → (numIt n).num 8 = (n, 0) := fun n hn => num_numIt (show n < 256 ^ 8 from hn)
  rcases cs with rfl | rfl | rfl | rfl | rfl | rfl | rfl | rfl | rfl | rfl | rfl | rfl | rfl | rfl | rfl | rfl
  · rw [rF0, show (itemP t 0).1 = numIt t.ch from rfl, n8 _ h.ch]; rfl
  · rw [rF1, show (itemP t 1).1 = numIt t.no from rfl, n8 _ h.no]; rfl
  · exact rNum (by decide) (by decide) (by decide) (by decide) (by decide) (by decide) (by decide) (by decide) h.pr
  · exact rNum (by decide) (by decide) (by decide) (by decide) (by decide) (by decide) (by decide) (by decide) h.ti
  · exact rNum (by decide) (by decide) (by decide) (by decide) (by decide) (by decide) (by decide) (by decide) h.ca
  · rw [rF5, show (itemP t 5).1 = numIt t.ga from rfl, n8 _ h.ga]; rfl
  · rw [rF6]
    show recvR u (It.txt (if t.cr = true then [] else t.to)) = .ok (if t.cr = true then { u with cr := true } else { u with to := t.to })
    by_cases hc : t.cr = true
    · rw [if_pos hc, if_pos hc]; rfl
    · rw [if_neg hc, if_neg hc]
      unfold recvR
      rw [if_pos (show (It.txt t.to).l = false from rfl), if_neg (by show ¬ t.to.length = 0; rw [h.to]; decide), if_pos (show (It.txt t.to).d.length = 20 from h.to)]
      rfl
  · exact rNum (by decide) (by decide) (by decide) (by decide) (by decide) (by decide) (by decide) (by decide) h.va
  · rw [rF8]; rfl
  · rw [rF9]
    have h1 : (fitP (It.lst (esIts t.ac))).2 = 0 := h0
    have h2 : (itemP t 9).1 = It.lst (esIts t.ac) := by
      show (fitP (It.lst (esIts t.ac))).1 = _
      unfold fitP at h1 ⊢
      split at h1
      · rename_i he; rw [if_pos he]
      · cases h1
    rw [h2, parse_back fun e he => ⟨(h.ac e he).1, fun w hw => ((h.ac e he).2.2 w hw).1⟩]; rfl
  · exact rNum (by decide) (by decide) (by decide) (by decide) (by decide) (by decide) (by decide) (by decide) h.bc
  · rw [rF11]
    obtain ⟨h1, h2⟩ := blobE_txt (l := t.bl) fun w hw => (h.bl w hw).1
    show blobR u (It.lst (ksIts t.bl)) = _
    unfold blobR
    rw [if_pos (show (It.lst (ksIts t.bl)).l = true from rfl), show (It.lst (ksIts t.bl)).its = ksIts t.bl from rfl, h1, h2]; rfl
  · rw [rF12]
    have h1 : (if wideU t.au = true then (It.zero, (141 : Int)) else fitP (It.lst (usIts t.au))).2 = 0 := h0
    have h2 : (itemP t 12).1 = It.lst (usIts t.au) ∧ wideU t.au = false := by
      show (if wideU t.au = true then (It.zero, (141 : Int)) else fitP (It.lst (usIts t.au))).1 = _ ∧ _
      split at h1
      · cases h1
      · rename_i hw
        rw [if_neg hw]
        refine ⟨?_, by simpa using hw⟩
        unfold fitP at h1 ⊢
        split at h1
        · rename_i he; rw [if_pos he]
        · cases h1
    rw [h2.1, parseA_back (fun u hu => (h.au u hu).1) h2.2]; rfl
  · exact rNum (by decide) (by decide) (by decide) (by decide) (by decide) (by decide) (by decide) (by decide) h.v
  · exact rNum (by decide) (by decide) (by decide) (by decide) (by decide) (by decide) (by decide) (by decide) h.r
  · exact rNum (by decide) (by decide) (by decide) (by decide) (by decide) (by decide) (by decide) (by decide) h.s
theorem decF_set {t : Tx} (h : t.ok) : ∀ (fs : List Int) (u : Tx), (∀ f ∈ fs, 0 ≤ f ∧ f ≤ 15) → (∀ f ∈ fs, (itemP t f).2 = 0) → decF u fs (itsL t fs) = .ok (fs.foldl (fun u f => setF u t f) u)
  | [], _, _, _ => rfl
  | f :: fs, u, h1, h2 => by
    show decF u (f :: fs) ((itemP t f).1 :: itsL t fs) = _
    rw [decF_step (readF_set h u (h1 f (by simp)) (h2 f (by simp))), decF_set h fs _ (fun g hg => h1 g (by simp [hg])) (fun g hg => h2 g (by simp [hg]))]
    rfl
end Go.Eng
namespace Go.Eng
open Go Go.Proofs
set_option maxRecDepth 100000
set_option linter.unusedVariables false

/-! ### What a transaction says alone counts -/
theorem absentB_core (t : Tx) (f : Int) : absentB t.core f = absentB t f := by
  have e : t.core.ac.length = t.ac.length := List.length_map ..
  unfold absentB; rw [e]; rfl
theorem core_core (t : Tx) : t.core.core = t.core := by simp only [Tx.core, List.map_map]; rfl
theorem okF_core (t : Tx) (f : Int) : okF t.core f = okF t f := by unfold okF; rw [absentB_core]; rfl
theorem fitsB_core (t : Tx) : fitsB t.core = fitsB t := by
  have h : okF t.core = okF t := funext (okF_core t)
  unfold fitsB; rw [h]; rfl
theorem draftE_core (t : Tx) : draftE t.core = draftE t := by unfold draftE; rw [fitsB_core]; rfl
theorem esIts_cor (es : List Ent) : esIts (es.map Ent.cor) = esIts es := by unfold esIts; rw [List.map_map]; rfl
theorem itemP_core (t : Tx) : itemP t.core = itemP t := by
  funext f
  have h : esIts t.core.ac = esIts t.ac := esIts_cor t.ac
  unfold itemP; rw [h]; rfl
theorem itsR_core (t : Tx) (fs : List Int) : itsR t.core fs = itsR t fs := by unfold itsR itsL; rw [itemP_core]
theorem encR_core (t : Tx) : encR t.core = encR t := by
  unfold encR
  rw [draftE_core, show t.core.ty = t.ty from rfl, itsR_core]; rfl
theorem encR_same {t u : Tx} (h : t.core = u.core) : encR t = encR u := by rw [← encR_core, h, encR_core]

/-! ### There and back -/
theorem draft_facts {t : Tx} (h : draftE t = 0) : (0 ≤ t.ty ∧ t.ty < 5) ∧ (∀ f : Nat, f < 16 → okF t f = true) ∧ (t.cr = true → t.to = z20s) := by
  refine ⟨draft_ty h, ?_⟩
  have hf : fitsB t = true := by
    cases hb : fitsB t with
    | true => rfl
    | false =>
      have h5 := draft_ty h
      unfold draftE at h
      rw [if_neg (by omega), if_pos hb] at h
      cases h
  unfold fitsB at hf
  simp only [Bool.and_eq_true, List.all_eq_true, List.mem_range, Bool.not_eq_true', Bool.and_eq_false_iff, decide_eq_false_iff_not] at hf
  refine ⟨hf.1.1.1, fun hc => ?_⟩
  rcases hf.1.1.2 with h2 | h2
  · rw [hc] at h2; cases h2
  · exact Classical.not_not.1 h2
theorem nil_of {α : Type} {l : List α} (h : decide (l.length = 0) = true) : l = [] := List.eq_nil_of_length_eq_zero (of_decide_eq_true h)
/-- The fields of a type, read from nothing. -/
theorem fold_set {t : Tx} (h : draftE t = 0) : (txFs t.ty).foldl (fun u f => setF u t f) (zeroTx t.ty) = { t.core with ch := if t.ty = 0 then 0 else t.ch } := by
  obtain ⟨⟨h0, h5⟩, hall, hto⟩ := draft_facts h
  clear h
  obtain ⟨ty, ch, no, pr, ti, ca, ga, cr, to, va, d, sd, ac, sac, bc, bl, sbl, au, sau, v, r, s⟩ := t
  simp only at h0 h5 hto
  have c2 := hall 2 (by decide)
  have c3 := hall 3 (by decide)
  have c4 := hall 4 (by decide)
  have c9 := hall 9 (by decide)
  have c10 := hall 10 (by decide)
  have c11 := hall 11 (by decide)
  have c12 := hall 12 (by decide)
  clear hall
  have cs : ty = 0 ∨ ty = 1 ∨ ty = 2 ∨ ty = 3 ∨ ty = 4 := by omega
  rcases cs with rfl | rfl | rfl | rfl | rfl
  · have g3 : ti = 0 := of_decide_eq_true (show decide (ti = 0) = true by simpa [okF, txFs, absentB] using c3)
    have g4 : ca = 0 := of_decide_eq_true (show decide (ca = 0) = true by simpa [okF, txFs, absentB] using c4)
    have g9 : ac = [] := nil_of (by simpa [okF, txFs, absentB] using c9)
    have g10 : bc = 0 := of_decide_eq_true (show decide (bc = 0) = true by simpa [okF, txFs, absentB] using c10)
    have g11 : bl = [] := nil_of (by simpa [okF, txFs, absentB] using c11)
    have g12 : au = [] := nil_of (by simpa [okF, txFs, absentB] using c12)
    subst g3; subst g4; subst g9; subst g10; subst g11; subst g12
    cases cr with
    | true => have := hto rfl; subst this; rfl
    | false => rfl
  · have g3 : ti = 0 := of_decide_eq_true (show decide (ti = 0) = true by simpa [okF, txFs, absentB] using c3)
    have g4 : ca = 0 := of_decide_eq_true (show decide (ca = 0) = true by simpa [okF, txFs, absentB] using c4)
    have g10 : bc = 0 := of_decide_eq_true (show decide (bc = 0) = true by simpa [okF, txFs, absentB] using c10)
    have g11 : bl = [] := nil_of (by simpa [okF, txFs, absentB] using c11)
    have g12 : au = [] := nil_of (by simpa [okF, txFs, absentB] using c12)
    subst g3; subst g4; subst g10; subst g11; subst g12
    cases cr with
    | true => have := hto rfl; subst this; rfl
    | false => rfl
  · have g2 : pr = 0 := of_decide_eq_true (show decide (pr = 0) = true by simpa [okF, txFs, absentB] using c2)
    have g10 : bc = 0 := of_decide_eq_true (show decide (bc = 0) = true by simpa [okF, txFs, absentB] using c10)
    have g11 : bl = [] := nil_of (by simpa [okF, txFs, absentB] using c11)
    have g12 : au = [] := nil_of (by simpa [okF, txFs, absentB] using c12)
    subst g2; subst g10; subst g11; subst g12
    cases cr with
    | true => have := hto rfl; subst this; rfl
    | false => rfl
  · have g2 : pr = 0 := of_decide_eq_true (show decide (pr = 0) = true by simpa [okF, txFs, absentB] using c2)
    have g12 : au = [] := nil_of (by simpa [okF, txFs, absentB] using c12)
    subst g2; subst g12
    cases cr with
    | true => have := hto rfl; subst this; rfl
    | false => rfl
  · have g2 : pr = 0 := of_decide_eq_true (show decide (pr = 0) = true by simpa [okF, txFs, absentB] using c2)
    have g10 : bc = 0 := of_decide_eq_true (show decide (bc = 0) = true by simpa [okF, txFs, absentB] using c10)
    have g11 : bl = [] := nil_of (by simpa [okF, txFs, absentB] using c11)
    subst g2; subst g10; subst g11
    cases cr with
    | true => have := hto rfl; subst this; rfl
    | false => rfl

theorem hd192 (n : Nat) (hn : n < 18446744073709551616) : ∃ c b, hd 192 n = c :: b ∧ 192 ≤ c := by
  unfold hd
  split
  · exact ⟨_, _, rfl, by omega⟩
  · refine ⟨_, _, rfl, ?_⟩
    have h1 := pow_blen_le (n := n) (by omega)
    have h2 : 256 ^ (blen n - 1) < 256 ^ 8 := Nat.lt_of_le_of_lt h1 (by omega)
    have h3 := (Nat.pow_lt_pow_iff_right (a := 256) (by omega)).1 h2
    omega
theorem encLst (its : List It) : enc (It.lst its) = hd 192 (encs its).length ++ encs its := rfl
theorem kind_pre {ty : Int} (hty : 0 ≤ ty ∧ ty < 5) {its : List It} (hl : (encs its).length < 18446744073709551616) (r : List Int) : kindR (preB ty ++ (enc (It.lst its) ++ r)) = (ty, enc (It.lst its) ++ r, 0) := by
  obtain ⟨c, b, e, hc⟩ := hd192 _ hl
  rw [encLst, e]
  unfold preB
  split
  · rename_i h0
    subst h0
    simp only [List.nil_append, List.cons_append, kindR]
    rw [if_pos hc]
  · simp only [List.cons_append, List.nil_append, kindR]
    rw [if_neg (by omega), if_neg (by omega), if_neg (by omega)]
theorem okS_of {it : It} (h : errOf it = 0) : okS it = true ∧ dep it ≤ 1024 := by
  unfold errOf at h
  split at h
  · rename_i h1
    split at h
    · cases h
    · exact ⟨h1, by omega⟩
  · cases h

theorem enc_dec {t : Tx} (ho : t.ok) (hf : t.fit) (h : (encR t).2 = 0) : ∃ u, decD (encR t).1 = .ok u ∧ u.core = t.core := by
  obtain ⟨hd, hs, he, hl⟩ := encR_more h
  obtain ⟨e1, e2⟩ := encR_ok h
  obtain ⟨hty, _, _⟩ := draft_facts hd
  have hel : (encs (itsL t (txFs t.ty))).length < 18446744073709551616 := by
    rw [encLst, List.length_append] at hl; omega
  obtain ⟨hos, hdp⟩ := okS_of he
  have hk := kind_pre hty hel []
  rw [List.append_nil] at hk
  have hdr := decR_back (it := It.lst (itsL t (txFs t.ty))) (by rw [strip_lst, (itsL_facts ho hf _).1]) (lst_byt (itsL_byt ho _)) hos hdp (by omega)
  have hlen : ¬ 16777216 < (encR t).1.length := by rw [e1]; show ¬ 16777216 < (preB t.ty ++ _).length; rw [List.length_append]; omega
  refine ⟨{ t.core with ch := t.ch }, ?_, core_core t⟩
  have htx : decTx (encR t).1 = .ok { t.core with ch := t.ch } := by
    rw [e1]
    show decTx (preB t.ty ++ enc (It.lst (itsL t (txFs t.ty)))) = _
    unfold decTx
    rw [hk, if_pos rfl]
    simp only
    rw [hdr]
    simp only
    unfold fieldsTx
    rw [if_pos (show (It.lst (itsL t (txFs t.ty))).l = true from rfl), if_pos (show (It.lst (itsL t (txFs t.ty))).its.length = (txFs t.ty).length from List.length_map ..), show (It.lst (itsL t (txFs t.ty))).its = itsL t (txFs t.ty) from rfl,
      decF_set ho (txFs t.ty) (zeroTx t.ty) (txFs_in t.ty) e2, fold_set hd]
    simp only
    unfold endTx
    have hfin : finTx { t.core with ch := t.ch } = .ok { t.core with ch := t.ch } := by
      unfold finTx
      rw [show encR { t.core with ch := t.ch } = encR t from encR_core t]
      exact onE_fine _ h
    by_cases h0 : t.ty = 0
    · rw [if_pos (show ({ t.core with ch := if t.ty = 0 then 0 else t.ch } : Tx).ty = 0 from h0)]
      unfold signB at hs
      rw [if_pos h0] at hs
      obtain ⟨hv, hc⟩ := of_decide_eq_true hs
      rw [if_pos (show chE ({ t.core with ch := if t.ty = 0 then 0 else t.ch } : Tx).v = 0 from hv)]
      have e3 : ({ ({ t.core with ch := if t.ty = 0 then 0 else t.ch } : Tx) with ch := chC ({ t.core with ch := if t.ty = 0 then 0 else t.ch } : Tx).v } : Tx) = { t.core with ch := t.ch } := by
        show ({ t.core with ch := chC t.v } : Tx) = _
        rw [hc]
      rw [e3]; exact hfin
    · rw [if_neg (show ¬ ({ t.core with ch := if t.ty = 0 then 0 else t.ch } : Tx).ty = 0 from h0), if_neg h0]
      exact hfin
  revert htx hlen
  cases (encR t).1 with
  | nil => intro _ h2; exact h2
  | cons c b => intro h1 h2; rw [decD_cons h1]; exact h2

/-! ### None begins another one -/
theorem prefix_free {t v : Tx} {p r : List Int} (hv : encR v = (p, 0)) (ht : encR t = (p ++ r, 0)) : r = [] := by
  obtain ⟨hd, _, _, hl⟩ := encR_more (t := t) (by rw [ht])
  obtain ⟨hd', _, _, hl'⟩ := encR_more (t := v) (by rw [hv])
  have e1 := (encR_ok (t := t) (by rw [ht])).1
  have e2 := (encR_ok (t := v) (by rw [hv])).1
  have hty := draft_ty hd
  have hty' := draft_ty hd'
  rw [ht] at e1
  rw [hv] at e2
  have e1 : p ++ r = preB t.ty ++ enc (It.lst (itsL t (txFs t.ty))) := congrArg Prod.fst e1
  have e2 : p = preB v.ty ++ enc (It.lst (itsL v (txFs v.ty))) := congrArg Prod.fst e2
  generalize itsL t (txFs t.ty) = I at *
  generalize itsL v (txFs v.ty) = J at *
  have hI : (encs I).length < 18446744073709551616 := by rw [encLst, List.length_append] at hl; omega
  have hJ : (encs J).length < 18446744073709551616 := by rw [encLst, List.length_append] at hl'; omega
  have k1 := kind_pre hty hI []
  have k2 := kind_pre hty' hJ r
  rw [List.append_nil] at k1
  rw [← e1, e2, List.append_assoc, k2] at k1
  have e3 : enc (It.lst J) ++ r = enc (It.lst I) := congrArg (fun x => x.2.1) k1
  have c1 := cut_encL (encs J) r hJ
  have c2 := cut_encL (encs I) [] hI
  rw [List.append_nil] at c2
  rw [encLst, encLst, List.append_assoc] at e3
  rw [e3, c2] at c1
  exact (congrArg (fun x => x.2.2.1) c1).symm
theorem enc_apart {t u : Tx} (ho : t.ok) (hf : t.fit) (ho' : u.ok) (hf' : u.fit) {p : List Int} (h1 : encR t = (p, 0)) (h2 : encR u = (p, 0)) : t.core = u.core := by
  obtain ⟨a, ha, hac⟩ := enc_dec ho hf (by rw [h1])
  obtain ⟨b, hb, hbc⟩ := enc_dec ho' hf' (by rw [h2])
  rw [h1] at ha
  rw [h2] at hb
  have ha : decD p = .ok a := ha
  have hb : decD p = .ok b := hb
  rw [ha] at hb
  cases hb
  rw [← hac, hbc]
theorem hd_byts {f : Int} {n : Nat} : bytesOk (hd f n) := fun b hb => by
  unfold hd at hb
  split at hb
  · rw [List.mem_singleton] at hb; omega
  · rw [List.mem_cons] at hb
    rcases hb with h | h
    · omega
    · exact be_range n _ b h
theorem encT_byts {d : List Int} (h : bytesOk d) : bytesOk (encT d) := by
  unfold encT
  split
  · exact bytesOk_app hd_byts h
  · exact h
mutual
theorem enc_byts : ∀ x : It, x.byt → bytesOk (enc x)
  | .mk true d sd its ss, h => bytesOk_app hd_byts (encs_byts its h.2)
  | .mk false d sd its ss, h => encT_byts h.1
theorem encs_byts : ∀ its : List It, byts its → bytesOk (encs its)
  | [], _ => fun x hx => by cases hx
  | x :: xs, h => bytesOk_app (enc_byts x h.1) (encs_byts xs h.2)
end
theorem enc_byt {t : Tx} (ho : t.ok) (hf : t.fit) : bytesOk (encR t).1 := by
  by_cases h : (encR t).2 = 0
  · obtain ⟨hd, _, _, hl⟩ := encR_more h
    rw [(encR_ok h).1]
    have hty := draft_ty hd
    refine bytesOk_app ?_ (enc_byts (It.lst (itsL t (txFs t.ty))) (lst_byt (itsL_byt ho _)))
    unfold preB
    split
    · intro x hx; cases hx
    · intro x hx; rw [List.mem_singleton] at hx; omega
  · have : (encR t).1 = [] := by
      unfold encR at h ⊢
      (repeat' split) <;> first | rfl | (exfalso; revert h; simp [*])
    rw [this]; intro x hx; cases hx
theorem enc_short {t : Tx} (h : (encR t).2 = 0) : (encR t).1.length ≤ 16777216 ∧ 0 < (encR t).1.length := by
  obtain ⟨hd, _, _, hl⟩ := encR_more h
  rw [(encR_ok h).1]
  show (preB t.ty ++ _).length ≤ _ ∧ 0 < (preB t.ty ++ _).length
  rw [List.length_append]
  refine ⟨hl, ?_⟩
  rw [encLst, List.length_append]
  have := hd_pos 192 (encs (itsL t (txFs t.ty))).length
  omega
end Go.Eng
namespace Go.Eng
open Go Go.Proofs
set_option maxRecDepth 100000
set_option maxHeartbeats 8000000
set_option linter.unusedVariables false

theorem copied15w_sound : Sound Tryd.prog 12 fun args k => ∃ (d : List Int) (sd : List (List PS)), args = [.s (.sl (d.map b8) sd)] ∧ d.length ≤ 2 ^ 40 ∧ k [.s (.ow (d.map b8) 5 1 1)] := by
  refine Sound.of_bodyO [] 0 tt_ok ent_ok Tryd.func12 rfl ?_
  rintro ar har Γ hΓ args k ⟨d, sd, rfl, hl, hk⟩
  obtain ⟨D, hD⟩ : ∃ D, D = d.map b8 := ⟨_, rfl⟩
  have hDl : ar.len D = (d.length : Int) := by rw [lenIs har, hD, List.length_map]
  rw [← hD] at hk ⊢
  conv => cbv
  refine .inr ⟨{ q : Nat × Int × List (List PS) // q.1 ≤ d.length ∧ q.2.1 = q.1 ∧ q.2.2 = (d.take q.1).map b8 },
    fun q => ⟨mk 19 [(0, .s (.p (.sl D sd))), (2, .s .nil), (3, .s (.own 0)), (4, pint q.1.2.1)], [.arr q.1.2.2 5 1 1 true]⟩,
    fun q => d.length - q.1.1, [.slot 3 5], _, ⟨(0, 0, []), Nat.zero_le _, rfl, rfl⟩, rfl, ?_, ?_⟩
  · conv => cbv
    simp
  · rintro ⟨⟨p, pi, L⟩, hq⟩
    have hp : p ≤ d.length := hq.1
    have hpi : pi = (p : Int) := hq.2.1
    have hL : L = (d.take p).map b8 := hq.2.2
    have hLl : L.length = p := by rw [hL, List.length_map, List.length_take]; omega
    dsimp only
    conv => cbv
    refine ⟨fun h => ?_, fun h => ?_⟩
    · have g := cLt har (b := ar.len D) h
      have hlt : p < d.length := by omega
      obtain ⟨x, hx⟩ : ∃ x, d[p]? = some x := ⟨_, List.getElem?_eq_getElem hlt⟩
      have rx : D[pi.toNat]? = some [.c (.v (.int .u8 x))] := by rw [hD, hpi]; simp [hx, b8]
      have hL2 : ar.app L [[.c (.v (.int .u8 x))]] = (d.take (p + 1)).map b8 := by rw [appIs har, hL, take_succ_get hx, List.map_append]; rfl
      conv => cbv
      refine ⟨_, by omega, rx, rfl, ?_⟩
      conv => cbv
      refine ⟨fun _ => ⟨by show (L.length + 1) * 1 ≤ 140737488355328; omega, fun y hy => by rw [List.mem_singleton] at hy; subst hy; rfl⟩, ?_⟩
      refine ⟨⟨(p + 1, ar.ib .add .i64 pi 1, ar.app L [[.c (.v (.int .u8 x))]]), hlt, iSucc har hpi (by omega), hL2⟩, ?_, ?_⟩
      · dsimp only
        conv => cbv
        simp
      · show d.length - (p + 1) < d.length - p
        omega
    · have g := cNlt har (b := ar.len D) h
      have hpe : p = d.length := by omega
      have hLD : L = D := by rw [hL, hpe, List.take_length, hD]
      rw [← hLD] at hk
      conv => cbv
      exact hk

theorem tmod_range (a : Int) {n : Nat} (h : 1 ≤ n) : -(n : Int) < a.tmod n ∧ a.tmod n < n := by
  have h1 := Int.tmod_lt_of_pos a (show (0 : Int) < n by omega)
  have h2 : -(n : Int) < a.tmod n := by
    have := Int.tmod_lt_of_pos (-a) (show (0 : Int) < n by omega)
    rw [Int.neg_tmod] at this
    omega
  exact ⟨h2, h1⟩
theorem which15_sound : Sound Tryd.prog 10 fun args k => ∃ (a : Int) (n : Nat), args = [.s (.v (.int .i64 a)), .s (.v (.int .i64 (n : Int)))] ∧ 1 ≤ n ∧ n ≤ 2 ^ 40 ∧ ∀ m : Nat, m < n → k [.s (.v (.int .i64 (m : Int)))] := by
  refine Sound.of_body tt_ok ent_ok Tryd.func10 rfl ?_
  rintro ar har Γ hΓ args k ⟨a, n, hargs, hn, hn2, hk⟩
  obtain ⟨N, hN⟩ : ∃ N : Int, N = n := ⟨_, rfl⟩
  rw [← hN] at hargs
  have hr : -N < ar.ib .rem .i64 a N ∧ ar.ib .rem .i64 a N < N := by rw [har, hN]; exact tmod_range a hn
  have hk0 : 0 ≤ ar.ib .rem .i64 a N → k [.s (.v (.int .i64 (ar.ib .rem .i64 a N)))] := fun h => by
    have := hk (ar.ib .rem .i64 a N).toNat (by omega)
    rwa [Int.toNat_of_nonneg h] at this
  have hk1 : ar.ib .rem .i64 a N < 0 → k [.s (.v (.int .i64 (ar.ib .add .i64 (ar.ib .rem .i64 a N) N)))] := fun h => by
    have e : ar.ib .add .i64 (ar.ib .rem .i64 a N) N = ar.ib .rem .i64 a N + N := iAdd har (by omega)
    rw [e]
    have := hk (ar.ib .rem .i64 a N + N).toNat (by omega)
    rwa [Int.toNat_of_nonneg (by omega)] at this
  have hN0 : N ≠ 0 := by omega
  clear hk
  subst hargs
  conv => cbv
  refine ⟨fun _ => hN0, ?_⟩
  refine ⟨fun h => ?_, fun h => ?_⟩
  · have hk := hk1 (cLt har (a := ar.ib .rem .i64 a N) (b := 0) h)
    conv => cbv
    exact hk
  · have hk := hk0 (cNlt har (a := ar.ib .rem .i64 a N) (b := 0) h)
    conv => cbv
    exact hk
end Go.Eng
