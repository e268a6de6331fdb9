/-
  What is read as a transaction is written as just these bytes. No program in sight.
  The plain transaction that each length makes: it is written in 32 to 35 bytes, and read back. What is read lies in its ranges. No program in sight.
-/
import Derived.Test.YtnaafeeloicklaaDoorGA
namespace Go.Eng
open Go Go.Proofs
set_option maxRecDepth 100000
set_option linter.unusedVariables false

theorem txt_of {x : It} (hs : x.strip = x) (ho : okS x = true) (hl : x.l = false) : x = It.txt x.d := by
  obtain ⟨l, d, sd, its, ss⟩ := x
  have hl : l = false := hl
  subst hl
  simp only [okS, decide_eq_true_eq] at ho
  have := List.eq_nil_of_length_eq_zero ho
  subst this
  rw [It.strip] at hs
  injection hs with _ _ h1 _ h2
  subst h1; subst h2
  rfl
theorem lst_of {x : It} (hs : x.strip = x) (ho : okS x = true) (hl : x.l = true) : x = It.lst x.its ∧ strips x.its = x.its ∧ okSs x.its = true := by
  obtain ⟨l, d, sd, its, ss⟩ := x
  have hl : l = true := hl
  subst hl
  simp only [okS, Bool.and_eq_true, decide_eq_true_eq] at ho
  have := List.eq_nil_of_length_eq_zero ho.1
  subst this
  rw [It.strip] at hs
  injection hs with _ _ h1 h3 h2
  subst h1; subst h2
  exact ⟨rfl, h3, ho.2⟩

theorem blob_strips : ∀ {l : List It}, (∀ y ∈ l, (y.getFixed 32).2 = 0) → strips l = ksIts (blobL l)
  | [], _ => rfl
  | y :: l, h => by
    rw [strips, blob_strips fun z hz => h z (by simp [hz]), getFixed_strip (h y (by simp))]; rfl

/-- The field that has just been read. -/
theorem readF_item {u u' : Tx} {f : Int} {x : It} (hb : x.byt) (hs : x.strip = x) (ho : okS x = true) (hc : f = 6 → u.cr = false) (hf : 0 ≤ f ∧ f ≤ 15) (hr : readF u f x = .ok u') (hi : (itemP u' f).2 = 0) : (itemP u' f).1 = x := by
  have hn : ∀ m, (x.num m).2 = 0 → numIt (x.num m).1 = x := fun m h => by rw [← num_strip hb h, hs]
  have cs : f = 0 ∨ f = 1 ∨ f = 2 ∨ f = 3 ∨ f = 4 ∨ f = 5 ∨ f = 6 ∨ f = 7 ∨ f = 8 ∨ f = 9 ∨ f = 10 ∨ f = 11 ∨ f = 12 ∨ f = 13 ∨ f = 14 ∨ f = 15 := by omega
  rcases cs with rfl | rfl | rfl | rfl | rfl | rfl | rfl | rfl | rfl | rfl | rfl | rfl | rfl | rfl | rfl | rfl
  · rw [rF0] at hr; obtain ⟨h, rfl⟩ := onE_ok hr; exact hn 8 h
  · rw [rF1] at hr; obtain ⟨h, rfl⟩ := onE_ok hr; exact hn 8 h
  · rw [rFn (by decide) (by decide) (by decide) (by decide) (by decide) (by decide) (by decide) (by decide)] at hr; obtain ⟨h, rfl⟩ := onE_ok hr; exact hn 32 h
  · rw [rFn (by decide) (by decide) (by decide) (by decide) (by decide) (by decide) (by decide) (by decide)] at hr; obtain ⟨h, rfl⟩ := onE_ok hr; exact hn 32 h
  · rw [rFn (by decide) (by decide) (by decide) (by decide) (by decide) (by decide) (by decide) (by decide)] at hr; obtain ⟨h, rfl⟩ := onE_ok hr; exact hn 32 h
  · rw [rF5] at hr; obtain ⟨h, rfl⟩ := onE_ok hr; exact hn 8 h
  · rw [rF6] at hr
    unfold recvR at hr
    split at hr
    · rename_i hl
      have hx := txt_of hs ho hl
      split at hr
      · rename_i hd
        cases hr
        have := List.eq_nil_of_length_eq_zero hd
        rw [hx, this]; rfl
      · split at hr
        · cases hr
          show It.txt (if u.cr = true then [] else x.d) = x
          rw [hc rfl, if_neg (by decide)]; exact hx.symm
        · cases hr
    · cases hr
  · rw [rFn (by decide) (by decide) (by decide) (by decide) (by decide) (by decide) (by decide) (by decide)] at hr; obtain ⟨h, rfl⟩ := onE_ok hr; exact hn 32 h
  · rw [rF8] at hr
    obtain ⟨h, rfl⟩ := onE_ok hr
    show It.txt x.getText.1 = x
    unfold It.getText at h ⊢
    split at h
    · rename_i h0
      rw [if_pos h0, ← hs, ke_txt h0]; rfl
    · rename_i h0; exact absurd h h0
  · rw [rF9] at hr
    split at hr
    · rename_i es hes
      cases hr
      have h1 := (parse_strip hes).1
      rw [hs] at h1
      have hi : (fitP (It.lst (esIts es))).2 = 0 := hi
      show (fitP (It.lst (esIts es))).1 = x
      unfold fitP at hi ⊢
      split at hi
      · rename_i he; rw [if_pos he, h1]
      · cases hi
    · cases hr
  · rw [rFn (by decide) (by decide) (by decide) (by decide) (by decide) (by decide) (by decide) (by decide)] at hr; obtain ⟨h, rfl⟩ := onE_ok hr; exact hn 32 h
  · rw [rF11] at hr
    unfold blobR at hr
    split at hr
    · rename_i hl
      obtain ⟨h, rfl⟩ := onE_ok hr
      obtain ⟨h1, h2, _⟩ := lst_of hs ho hl
      show It.lst (ksIts (blobL x.its)) = x
      rw [← blob_strips (blobE_zero h), h2]; exact h1.symm
    · cases hr
  · rw [rF12] at hr
    split at hr
    · rename_i us hus
      cases hr
      have h1 := (parseA_strip hb hus).1
      rw [hs] at h1
      have hi : (if wideU us = true then (It.zero, (141 : Int)) else fitP (It.lst (usIts us))).2 = 0 := hi
      show (if wideU us = true then (It.zero, (141 : Int)) else fitP (It.lst (usIts us))).1 = x
      split at hi
      · cases hi
      · rename_i hw
        rw [if_neg hw]
        unfold fitP at hi ⊢
        split at hi
        · rename_i he; rw [if_pos he, h1]
        · cases hi
    · cases hr
  · rw [rFn (by decide) (by decide) (by decide) (by decide) (by decide) (by decide) (by decide) (by decide)] at hr; obtain ⟨h, rfl⟩ := onE_ok hr; exact hn 32 h
  · rw [rFn (by decide) (by decide) (by decide) (by decide) (by decide) (by decide) (by decide) (by decide)] at hr; obtain ⟨h, rfl⟩ := onE_ok hr; exact hn 32 h
  · rw [rFn (by decide) (by decide) (by decide) (by decide) (by decide) (by decide) (by decide) (by decide)] at hr; obtain ⟨h, rfl⟩ := onE_ok hr; exact hn 32 h

/-- The other fields. -/
theorem readF_keep {u u' : Tx} {f g : Int} {x : It} (hf : 0 ≤ f ∧ f ≤ 15) (hg : 0 ≤ g ∧ g ≤ 15) (hne : g ≠ f) (hr : readF u f x = .ok u') : itemP u' g = itemP u g := by
  have cs : f = 0 ∨ f = 1 ∨ f = 2 ∨ f = 3 ∨ f = 4 ∨ f = 5 ∨ f = 6 ∨ f = 7 ∨ f = 8 ∨ f = 9 ∨ f = 10 ∨ f = 11 ∨ f = 12 ∨ f = 13 ∨ f = 14 ∨ f = 15 := by omega
  have cg : g = 0 ∨ g = 1 ∨ g = 2 ∨ g = 3 ∨ g = 4 ∨ g = 5 ∨ g = 6 ∨ g = 7 ∨ g = 8 ∨ g = 9 ∨ g = 10 ∨ g = 11 ∨ g = 12 ∨ g = 13 ∨ g = 14 ∨ g = 15 := by omega
  have key : ∃ u2, u' = u2 ∧ itemP u2 g = itemP u g := by
    rcases cs with rfl | rfl | rfl | rfl | rfl | rfl | rfl | rfl | rfl | rfl | rfl | rfl | rfl | rfl | rfl | rfl
    · rw [rF0] at hr; obtain ⟨h, rfl⟩ := onE_ok hr; exact ⟨_, rfl, by simp only [itemP, hne, if_false]; rfl⟩
    · rw [rF1] at hr; obtain ⟨h, rfl⟩ := onE_ok hr; exact ⟨_, rfl, by simp only [itemP, hne, if_false]; rfl⟩
    · rw [rFn (by decide) (by decide) (by decide) (by decide) (by decide) (by decide) (by decide) (by decide)] at hr; obtain ⟨h, rfl⟩ := onE_ok hr; exact ⟨_, rfl, by simp only [itemP, numF, hne, if_false]; rfl⟩
    · rw [rFn (by decide) (by decide) (by decide) (by decide) (by decide) (by decide) (by decide) (by decide)] at hr; obtain ⟨h, rfl⟩ := onE_ok hr; exact ⟨_, rfl, by simp only [itemP, numF, hne, if_false]; rfl⟩
    · rw [rFn (by decide) (by decide) (by decide) (by decide) (by decide) (by decide) (by decide) (by decide)] at hr; obtain ⟨h, rfl⟩ := onE_ok hr; exact ⟨_, rfl, by simp only [itemP, numF, hne, if_false]; rfl⟩
    · rw [rF5] at hr; obtain ⟨h, rfl⟩ := onE_ok hr; exact ⟨_, rfl, by simp only [itemP, hne, if_false]; rfl⟩
    · rw [rF6] at hr
      unfold recvR at hr
      split at hr
      · split at hr
        · cases hr; exact ⟨_, rfl, by simp only [itemP, hne, if_false]; rfl⟩
        · split at hr
          · cases hr; exact ⟨_, rfl, by simp only [itemP, hne, if_false]; rfl⟩
          · cases hr
      · cases hr
    · rw [rFn (by decide) (by decide) (by decide) (by decide) (by decide) (by decide) (by decide) (by decide)] at hr; obtain ⟨h, rfl⟩ := onE_ok hr; exact ⟨_, rfl, by simp only [itemP, numF, hne, if_false]; rfl⟩
    · rw [rF8] at hr; obtain ⟨h, rfl⟩ := onE_ok hr; exact ⟨_, rfl, by simp only [itemP, hne, if_false]; rfl⟩
    · rw [rF9] at hr
      split at hr
      · cases hr; exact ⟨_, rfl, by simp only [itemP, hne, if_false]; rfl⟩
      · cases hr
    · rw [rFn (by decide) (by decide) (by decide) (by decide) (by decide) (by decide) (by decide) (by decide)] at hr; obtain ⟨h, rfl⟩ := onE_ok hr; exact ⟨_, rfl, by simp only [itemP, numF, hne, if_false]; rfl⟩
    · rw [rF11] at hr
      unfold blobR at hr
      split at hr
      · obtain ⟨h, rfl⟩ := onE_ok hr; exact ⟨_, rfl, by simp only [itemP, hne, if_false]; rfl⟩
      · cases hr
    · rw [rF12] at hr
      split at hr
      · cases hr; exact ⟨_, rfl, by simp only [itemP, hne, if_false]; rfl⟩
      · cases hr
    · rw [rFn (by decide) (by decide) (by decide) (by decide) (by decide) (by decide) (by decide) (by decide)] at hr; obtain ⟨h, rfl⟩ := onE_ok hr; exact ⟨_, rfl, by simp only [itemP, numF, hne, if_false]; rfl⟩
    · rw [rFn (by decide) (by decide) (by decide) (by decide) (by decide) (by decide) (by decide) (by decide)] at hr; obtain ⟨h, rfl⟩ := onE_ok hr; exact ⟨_, rfl, by simp only [itemP, numF, hne, if_false]; rfl⟩
    · rw [rFn (by decide) (by decide) (by decide) (by decide) (by decide) (by decide) (by decide) (by decide)] at hr; obtain ⟨h, rfl⟩ := onE_ok hr
      refine ⟨_, rfl, ?_⟩
      rcases cg with rfl | rfl | rfl | rfl | rfl | rfl | rfl | rfl | rfl | rfl | rfl | rfl | rfl | rfl | rfl | rfl <;> first | rfl | exact absurd rfl hne
  obtain ⟨u2, rfl, h⟩ := key
  exact h

theorem readF_cr {u u' : Tx} {f : Int} {x : It} (hf : f ≠ 6) (hr : readF u f x = .ok u') : u'.cr = u.cr := by
  unfold readF at hr
  rw [if_neg hf] at hr
  split at hr
  · obtain ⟨_, rfl⟩ := onE_ok hr; rfl
  · split at hr
    · obtain ⟨_, rfl⟩ := onE_ok hr; rfl
    · split at hr
      · obtain ⟨_, rfl⟩ := onE_ok hr; rfl
      · split at hr
        · obtain ⟨h0, rfl⟩ := onE_ok hr; rfl
        · split at hr
          · split at hr
            · cases hr; rfl
            · cases hr
          · split at hr
            · unfold blobR at hr
              split at hr
              · obtain ⟨h0, rfl⟩ := onE_ok hr; rfl
              · cases hr
            · split at hr
              · split at hr
                · cases hr; rfl
                · cases hr
              · obtain ⟨_, rfl⟩ := onE_ok hr
                unfold setNum; (repeat' split) <;> rfl

theorem decF_items : ∀ (fs : List Int) (its : List It) (u u' : Tx), fs.length = its.length → fs.Nodup → (∀ f ∈ fs, 0 ≤ f ∧ f ≤ 15) → byts its → strips its = its → okSs its = true → ((6 : Int) ∈ fs → u.cr = false) → decF u fs its = .ok u' → (∀ f ∈ fs, (itemP u' f).2 = 0) →
    itsL u' fs = its ∧ ∀ g, 0 ≤ g ∧ g ≤ 15 → g ∉ fs → itemP u' g = itemP u g
  | [], [], u, u', _, _, _, _, _, _, _, h, _ => by
    cases h
    exact ⟨rfl, fun g _ _ => rfl⟩
  | [], _ :: _, _, _, hl, _, _, _, _, _, _, _, _ => by cases hl
  | _ :: _, [], _, _, hl, _, _, _, _, _, _, _, _ => by cases hl
  | f :: fs, x :: xs, u, u', hl, hnd, hin, hb, hs, ho, hc, h, hi => by
    rw [decF] at h
    rw [List.nodup_cons] at hnd
    rw [strips, List.cons.injEq] at hs
    rw [okSs, Bool.and_eq_true] at ho
    split at h
    · cases h
    · rename_i u1 h1
      have hf := hin f (by simp)
      obtain ⟨h2, h3⟩ := decF_items fs xs u1 u' (by simpa using hl) hnd.2 (fun g hg => hin g (by simp [hg])) hb.2 hs.2 ho.2 (fun h6 => by
        have hne : f ≠ 6 := fun e => hnd.1 (by rw [e]; exact h6)
        rw [readF_cr hne h1]; exact hc (by simp [h6])) h (fun g hg => hi g (by simp [hg]))
      have h4 := h3 f hf hnd.1
      have h5 := hi f (by simp)
      rw [h4] at h5
      have h6 := readF_item hb.1 hs.1 ho.1 (fun e => hc (by rw [e]; simp)) hf h1 h5
      refine ⟨?_, fun g hg hgn => ?_⟩
      · show (itemP u' f).1 :: itsL u' fs = x :: xs
        rw [h4, h6, h2]
      · rw [List.mem_cons, not_or] at hgn
        rw [h3 g hg hgn.2, readF_keep hf hg hgn.1 h1]

theorem encR_ok {t : Tx} (h : (encR t).2 = 0) : encR t = (preB t.ty ++ enc (It.lst (itsL t (txFs t.ty))), 0) ∧ ∀ f ∈ txFs t.ty, (itemP t f).2 = 0 := by
  have h0 := h
  unfold encR at h0
  split at h0
  · rename_i h1; exact absurd h0 h1
  · split at h0
    · cases h0
    · split at h0
      · rename_i h1; exact absurd h0 h1
      · split at h0
        · cases h0
        · rename_i h1 h2 h3 h4
          have h3 : (itsR t (txFs t.ty)).2 = 0 := by
            by_cases e : (itsR t (txFs t.ty)).2 = 0
            · exact e
            · exact absurd e h3
          obtain ⟨e1, e2, e3⟩ := itsR_ok h3
          refine ⟨?_, e3⟩
          unfold encR
          rw [if_neg h1, if_neg h2, if_neg (fun e => e h3), if_neg h4, e1]

theorem kindR_bytes : ∀ {d : List Int}, (kindR d).2.2 = 0 → d = preB (kindR d).1 ++ (kindR d).2.1
  | [], _ => rfl
  | c :: b, h => by
    simp only [kindR] at h ⊢
    split
    · rfl
    · rename_i h1
      rw [if_neg h1] at h
      split
      · rename_i h2; rw [if_pos h2] at h; cases h
      · rename_i h2
        rw [if_neg h2] at h
        split
        · rename_i h3; rw [if_pos h3] at h; cases h
        · rename_i h3
          have : c ≠ 0 := fun e => h3 (.inl e)
          show c :: b = preB c ++ b
          rw [preB, if_neg this]; rfl
theorem kindR_ty : ∀ {d : List Int}, bytesOk d → 0 ≤ (kindR d).1 ∧ (kindR d).1 < 5 ∧ bytesOk (kindR d).2.1
  | [], _ => ⟨by decide, by decide, fun x hx => by cases hx⟩
  | c :: b, h => by
    have hc := h c (by simp)
    have hb : bytesOk b := fun x hx => h x (by simp [hx])
    simp only [kindR]
    split
    · exact ⟨by simp, by simp, h⟩
    · split
      · exact ⟨by simp, by simp, fun x hx => by cases hx⟩
      · split
        · exact ⟨by simp, by simp, fun x hx => by cases hx⟩
        · rename_i h3
          have h3 : c ≠ 0 ∧ ¬ (5 ≤ c) := not_or.1 h3
          exact ⟨hc.1, by show c < 5; omega, hb⟩
theorem txFs_in (ty : Int) : ∀ f ∈ txFs ty, 0 ≤ f ∧ f ≤ 15 := by
  unfold txFs; (repeat' split) <;> decide

/-- What is read is written back. -/
theorem decTx_enc {d : List Int} {u : Tx} (hb : bytesOk d) (h : decTx d = .ok u) : encR u = (d, 0) := by
  unfold decTx at h
  split at h
  case isFalse => cases h
  rename_i hk0
  obtain ⟨ht0, ht5, hbb⟩ := kindR_ty hb
  have hd := kindR_bytes hk0
  generalize (kindR d).1 = ty at h ht0 ht5 hd
  generalize (kindR d).2.1 = bb at h hbb hd
  split at h
  · cases h
  rename_i it hit
  have hr := decR_read hbb hit
  unfold fieldsTx at h
  split at h
  case isFalse => cases h
  rename_i hl
  split at h
  case isFalse => cases h
  rename_i hlen
  split at h
  · cases h
  rename_i u1 hu1
  have hs1 := hr.s
  rw [strips, List.cons.injEq] at hs1
  have ho1 := hr.o
  rw [okSs, Bool.and_eq_true] at ho1
  obtain ⟨hit2, hs2, ho2⟩ := lst_of hs1.1 ho1.1 hl
  have hb2 : byts it.its := by
    have h1 := hr.b.1
    obtain ⟨l, dd, sd, its, ss⟩ := it
    exact h1.2
  have hty1 : u1.ty = ty := decF_ty hu1
  have henc : enc (It.lst it.its) = bb := by
    have := hr.e
    rw [encs, encs, List.append_nil, hit2] at this
    rw [← hit2] at this ⊢
    exact this
  have main : ∀ v : Tx, v.ty = ty → (∀ g ∈ txFs ty, itemP v g = itemP u1 g) → (encR v).2 = 0 → encR v = (d, 0) := fun v hv hg he => by
    obtain ⟨e1, e2⟩ := encR_ok he
    rw [hv] at e1 e2
    have e3 : itsL v (txFs ty) = itsL u1 (txFs ty) := List.map_congr_left fun g hm => by rw [hg g hm]
    obtain ⟨e4, _⟩ := decF_items (txFs ty) it.its (zeroTx ty) u1 hlen.symm (txFs_nodup ⟨ht0, ht5⟩) (txFs_in ty) hb2 hs2 ho2 (fun _ => rfl) hu1 fun f hf => by rw [← hg f hf]; exact e2 f hf
    rw [e1, e3, e4, henc, ← hd]
  unfold endTx at h
  split at h
  · rename_i h0
    split at h
    · obtain ⟨h1, rfl⟩ := onE_ok (show onE _ _ = _ from h)
      refine main _ hty1 (fun g hg => ?_) h1
      have hne : g ≠ 0 := fun e => by
        rw [← hty1, h0, e] at hg
        exact absurd hg (by decide)
      simp only [itemP, hne, if_false]
      rfl
    · cases h
  · obtain ⟨h1, rfl⟩ := onE_ok (show onE _ _ = _ from h)
    exact main _ hty1 (fun g hg => rfl) h1
end Go.Eng
namespace Go.Eng
open Go Go.Proofs
set_option maxRecDepth 100000
set_option linter.unusedVariables false

/-! ### What is read -/
theorem decF_ok {n : Nat} : ∀ {fs : List Int} {xs : List It} {u u' : Tx}, u.ok → u.lim n → byts xs → bulks xs ≤ n → decF u fs xs = .ok u' → u'.ok ∧ u'.lim n
  | [], _, _, _, h1, h2, _, _, h => by cases h; exact ⟨h1, h2⟩
  | _ :: _, [], _, _, h1, h2, _, _, h => by cases h; exact ⟨h1, h2⟩
  | f :: fs, x :: xs, u, u', h1, h2, h3, h4, h => by
    rw [bulks] at h4
    rw [decF] at h
    split at h
    · cases h
    · rename_i u1 hr
      exact decF_ok (readF_ok h1 h3.1 hr) (readF_lim h2 h3.1 (by omega) hr) h3.2 (by omega) h
theorem chC_lt (n : Nat) : chC n < 18446744073709551616 := by unfold chC; split <;> omega
theorem zeroTx_ok {ty : Int} (h : 0 ≤ ty ∧ ty < 5) : (zeroTx ty).ok := by
  have hz : (0 : Nat) < M256 := by decide
  have h64 : (0 : Nat) < 18446744073709551616 := by decide
  have h20 : bytesOk z20s := fun x hx => by rw [z20s, List.mem_replicate] at hx; omega
  exact ⟨by show _ ≤ ty ∧ ty ≤ _; omega, h64, h64, hz, hz, hz, h64, rfl, hz, (by intro x hx; cases hx), hz, (by intro x hx; cases hx), (by intro x hx; cases hx), hz, hz, hz, h20, (by intro x hx; cases hx)⟩
theorem kindR_len : ∀ d : List Int, (kindR d).2.1.length ≤ d.length
  | [] => Nat.le_refl _
  | c :: b => by
    simp only [kindR]
    (repeat' split) <;> simp
theorem decTx_ok {d : List Int} {u : Tx} {n : Nat} (hb : bytesOk d) (hn : 2 * d.length ≤ n) (h : decTx d = .ok u) : u.ok ∧ u.lim n := by
  unfold decTx at h
  split at h
  case isFalse => cases h
  obtain ⟨ht0, ht5, hbb⟩ := kindR_ty hb
  have hle := kindR_len d
  generalize (kindR d).1 = ty at h ht0 ht5
  generalize (kindR d).2.1 = bb at h hbb hle
  split at h
  · cases h
  rename_i it hit
  have hr := decR_read hbb hit
  unfold fieldsTx at h
  split at h
  case isFalse => cases h
  split at h
  case isFalse => cases h
  split at h
  · cases h
  rename_i u1 hu1
  have hb2 : byts it.its := by
    have h1 := hr.b.1
    obtain ⟨l, dd, sd, its, ss⟩ := it
    exact h1.2
  have hk2 : bulks it.its ≤ n := by
    have h1 := hr.n
    obtain ⟨l, dd, sd, its, ss⟩ := it
    simp only [bulks, It.bulk] at h1
    show bulks its ≤ n
    omega
  obtain ⟨h1, h2⟩ := decF_ok (zeroTx_ok ⟨ht0, ht5⟩) ⟨Nat.zero_le _, Nat.zero_le _, Nat.zero_le _, Nat.zero_le _⟩ hb2 hk2 hu1
  unfold endTx at h
  split at h
  · split at h
    · obtain ⟨_, rfl⟩ := onE_ok (show onE _ _ = _ from h)
      exact ⟨{ h1 with ch := chC_lt _ }, { h2 with }⟩
    · cases h
  · obtain ⟨_, rfl⟩ := onE_ok (show onE _ _ = _ from h)
    exact ⟨h1, h2⟩

theorem onE_no {α : Type} {e e' : Int} {x : α} (h : onE e x = .error e') : e' ≠ 0 := by
  unfold onE at h
  split at h
  · cases h
  · rename_i h0; cases h; exact h0
theorem readF_err {u : Tx} {f e : Int} {x : It} (h : readF u f x = .error e) : e ≠ 0 := by
  unfold readF at h
  split at h
  · exact onE_no h
  · split at h
    · exact onE_no h
    · split at h
      · exact onE_no h
      · split at h
        · unfold recvR at h
          split at h
          · split at h
            · cases h
            · split at h
              · cases h
              · cases h; decide
          · cases h; decide
        · split at h
          · exact onE_no h
          · split at h
            · split at h
              · cases h
              · cases h; decide
            · split at h
              · unfold blobR at h
                split at h
                · exact onE_no h
                · cases h; decide
              · split at h
                · split at h
                  · cases h
                  · cases h; decide
                · exact onE_no h
theorem decF_err : ∀ {fs : List Int} {xs : List It} {u : Tx} {e : Int}, decF u fs xs = .error e → e ≠ 0
  | [], _, _, _, h => by cases h
  | _ :: _, [], _, _, h => by cases h
  | f :: fs, x :: xs, u, e, h => by
    rw [decF] at h
    split at h
    · rename_i e2 h2; cases h; exact readF_err h2
    · exact decF_err h

/-! ### The plain transaction -/
def simT (n : Nat) : Tx := ⟨0, 0, n, 0, 0, 0, 21000, false, z20s, 0, [], [], [], [], 0, [], [], [], [], 27, 0, 0⟩
def simI (n : Nat) : List It := [numIt n, numIt 0, numIt 21000, .txt z20s, numIt 0, .txt [], numIt 27, numIt 0, numIt 0]
theorem simI_eq (n : Nat) : itsL (simT n) (txFs 0) = simI n := rfl
theorem simT_ok {n : Nat} (h : n < 18446744073709551616) : (simT n).ok := by
  have hz : (0 : Nat) < M256 := by decide
  have h64 : (0 : Nat) < 18446744073709551616 := by decide
  have h20 : bytesOk z20s := fun x hx => by rw [z20s, List.mem_replicate] at hx; omega
  exact ⟨by show (_ : Int) ≤ 0 ∧ (0 : Int) ≤ _; omega, h64, h, hz, hz, hz, by show 21000 < _; omega, rfl, hz, (by intro x hx; cases hx), hz, (by intro x hx; cases hx), (by intro x hx; cases hx), by show 27 < M256; decide, hz, hz, h20, (by intro x hx; cases hx)⟩
theorem simT_fit (n : Nat) : (simT n).fit := ⟨Nat.zero_le _, Nat.zero_le _, Nat.zero_le _, Nat.zero_le _⟩
def simR : List Int := [128, 130, 82, 8, 148, 0, 0, 0, 0, 0, 0, 0, 0, 0, 0, 0, 0, 0, 0, 0, 0, 0, 0, 0, 0, 128, 128, 27, 128, 128]
theorem numB_zero : numB 0 = [] := by decide
theorem numB_21000 : numB 21000 = [82, 8] := by decide
theorem numB_27 : numB 27 = [27] := by decide
theorem encT_nil : encT [] = [128] := by decide
theorem simI_encs (n : Nat) : encs (simI n) = encT (numB n) ++ simR := by
  show encT (numB n) ++ (encT (numB 0) ++ (encT (numB 21000) ++ (encT z20s ++ (encT (numB 0) ++ (encT [] ++ (encT (numB 27) ++ (encT (numB 0) ++ (encT (numB 0) ++ [])))))))) = _
  rw [numB_zero, numB_21000, numB_27, encT_nil, show encT [82, 8] = [130, 82, 8] from by decide, show encT [27] = [27] from by decide, show encT z20s = [148, 0, 0, 0, 0, 0, 0, 0, 0, 0, 0, 0, 0, 0, 0, 0, 0, 0, 0, 0, 0] from by decide]
  rfl
theorem numB_short {n : Nat} (h : n < 18446744073709551616) : (numB n).length ≤ 8 := by
  rw [numB, be_length]
  rcases Nat.eq_zero_or_pos n with h0 | h0
  · subst h0; decide
  · have h1 := pow_blen_le (n := n) (by omega)
    have h2 : 256 ^ (blen n - 1) < 256 ^ 8 := Nat.lt_of_le_of_lt h1 (by omega)
    have h3 := (Nat.pow_lt_pow_iff_right (a := 256) (by omega)).1 h2
    omega
theorem encT_short {q : List Int} (h : q.length ≤ 8) : 1 ≤ (encT q).length ∧ (encT q).length ≤ 9 := by
  refine ⟨(encT_pos q).1, ?_⟩
  unfold encT
  split
  · rw [List.length_append, hd, if_pos (by omega), List.length_singleton]; omega
  · omega
/-- Its bytes. -/
theorem simB {n : Nat} (h : n < 18446744073709551616) : ∃ (L : Nat) (b : List Int), enc (It.lst (simI n)) = ((192 + L : Nat) : Int) :: b ∧ b.length = L ∧ 31 ≤ L ∧ L ≤ 39 := by
  obtain ⟨h1, h2⟩ := encT_short (numB_short h)
  refine ⟨(encs (simI n)).length, encs (simI n), ?_, rfl, ?_, ?_⟩
  · have hL : (encs (simI n)).length ≤ 39 := by rw [simI_encs, List.length_append]; have : simR.length = 30 := rfl; omega
    show hd 192 (encs (simI n)).length ++ encs (simI n) = _
    rw [hd, if_pos (by omega), List.singleton_append]
    congr 1
    omega
  · rw [simI_encs, List.length_append]; have : simR.length = 30 := rfl; omega
  · rw [simI_encs, List.length_append]; have : simR.length = 30 := rfl; omega

theorem simI_bulk {n : Nat} (h : n < 18446744073709551616) : (It.lst (simI n)).bulk ≤ 100 := by
  have h1 := numB_short h
  have h0 : (numB 0).length = 0 := by decide
  have h2 : (numB 21000).length = 2 := by decide
  have h3 : (numB 27).length = 1 := by decide
  have h4 : z20s.length = 20 := by decide
  simp only [simI, It.lst, It.bulk, bulks, numIt, It.txt, List.length_nil, h0, h2, h3, h4]
  omega
theorem sim_err {n : Nat} (h : n < 18446744073709551616) : errOf (It.lst (simI n)) = 0 := by
  have h1 := simI_bulk h
  have h2 := sz_le (It.lst (simI n)) (by omega)
  unfold errOf
  rw [if_pos (show okS (It.lst (simI n)) = true from rfl), if_neg (by show ¬ (1024 < dep (It.lst (simI n))); rw [show dep (It.lst (simI n)) = 1 from rfl]; omega), if_neg (by omega)]
theorem sim_its {n : Nat} (h : n < 18446744073709551616) : itsR (simT n) (txFs 0) = (simI n, 0) := by
  have hf : ((txFs 0).find? fun f => decide ((itemP (simT n) f).2 ≠ 0)) = none := by
    rw [List.find?_eq_none]
    intro f hf
    have hf : f ∈ [1, 2, 5, 6, 7, 8, 13, 14, 15] := hf
    simp only [List.mem_cons, List.not_mem_nil, or_false] at hf
    rcases hf with rfl | rfl | rfl | rfl | rfl | rfl | rfl | rfl | rfl <;> simp [itemP]
  unfold itsR
  rw [hf]
  simp only
  rw [simI_eq, sim_err h]
  rfl
theorem sim_draft (n : Nat) : draftE (simT n) = 0 := by
  have h1 : fitsB (simT n) = true := by rfl
  unfold draftE
  rw [h1]
  rfl
theorem sim_enc {n : Nat} (h : n < 18446744073709551616) : encR (simT n) = (enc (It.lst (simI n)), 0) := by
  obtain ⟨L, b, h1, h2, h3, h4⟩ := simB h
  have hs : signB (simT n) = true := by unfold signB; rfl
  unfold encR
  rw [sim_draft, if_neg (by decide), hs, if_neg (by decide), show (simT n).ty = 0 from rfl, sim_its h, if_neg (fun e => e rfl), if_neg]
  · rfl
  · rw [h1, List.length_cons]
    show ¬ (16777216 < 0 + (b.length + 1))
    omega

theorem decF_step {u u' : Tx} {f : Int} {fs : List Int} {x : It} {xs : List It} (h : readF u f x = .ok u') : decF u (f :: fs) (x :: xs) = decF u' fs xs := by
  rw [decF, h]
theorem rNum {u : Tx} {f : Int} {n : Nat} (h0 : f ≠ 0) (h1 : f ≠ 1) (h5 : f ≠ 5) (h6 : f ≠ 6) (h8 : f ≠ 8) (h9 : f ≠ 9) (h11 : f ≠ 11) (h12 : f ≠ 12) (hn : n < M256) : readF u f (numIt n) = .ok (setNum u f n) := by
  rw [rFn h0 h1 h5 h6 h8 h9 h11 h12, num_numIt (show n < 256 ^ 32 from hn)]; rfl
theorem sim_decF {n : Nat} (h : n < 18446744073709551616) : decF (zeroTx 0) (txFs 0) (simI n) = .ok (simT n) := by
  have hz : (0 : Nat) < M256 := by decide
  have r1 : readF (zeroTx 0) 1 (numIt n) = .ok { zeroTx 0 with no := n } := by rw [rF1, num_numIt (by omega)]; rfl
  have r3 : ∀ u, readF u 5 (numIt 21000) = .ok { u with ga := 21000 } := fun u => by rw [rF5, num_numIt (by decide)]; rfl
  have r4 : ∀ u, readF u 6 (It.txt z20s) = .ok { u with to := z20s } := fun u => by rw [rF6]; rfl
  have r6 : ∀ u, readF u 8 (It.txt []) = .ok { u with d := [], sd := [] } := fun u => by rw [rF8]; rfl
  show decF (zeroTx 0) [1, 2, 5, 6, 7, 8, 13, 14, 15] [numIt n, numIt 0, numIt 21000, .txt z20s, numIt 0, .txt [], numIt 27, numIt 0, numIt 0] = _
  rw [decF_step r1, decF_step (rNum (by decide) (by decide) (by decide) (by decide) (by decide) (by decide) (by decide) (by decide) hz), decF_step (r3 _), decF_step (r4 _),
    decF_step (rNum (by decide) (by decide) (by decide) (by decide) (by decide) (by decide) (by decide) (by decide) hz), decF_step (r6 _),
    decF_step (rNum (by decide) (by decide) (by decide) (by decide) (by decide) (by decide) (by decide) (by decide) (show 27 < M256 by decide)),
    decF_step (rNum (by decide) (by decide) (by decide) (by decide) (by decide) (by decide) (by decide) (by decide) hz),
    decF_step (rNum (by decide) (by decide) (by decide) (by decide) (by decide) (by decide) (by decide) (by decide) hz)]
  rfl
theorem sim_byt (n : Nat) : (It.lst (simI n)).byt := by
  have h20 : bytesOk z20s := fun x hx => by rw [z20s, List.mem_replicate] at hx; omega
  have h0 : bytesOk [] := fun x hx => by cases hx
  have hn : ∀ m, (numIt m).byt := fun m => ⟨numB_byt m, trivial⟩
  exact ⟨h0, hn _, hn _, hn _, ⟨h20, trivial⟩, hn _, ⟨h0, trivial⟩, hn _, hn _, hn _, trivial⟩
/-- It is read back. -/
theorem sim_dec {n : Nat} (h : n < 18446744073709551616) : decTx (enc (It.lst (simI n))) = .ok (simT n) := by
  obtain ⟨L, b, h1, h2, h3, h4⟩ := simB h
  have hl : (enc (It.lst (simI n))).length ≤ 16777216 := by rw [h1, List.length_cons]; omega
  have hd := decR_back (it := It.lst (simI n)) rfl (sim_byt n) rfl (by rw [show dep (It.lst (simI n)) = 1 from rfl]; omega) hl
  have hk : kindR (enc (It.lst (simI n))) = (0, enc (It.lst (simI n)), 0) := by
    rw [h1]; simp only [kindR]; rw [if_pos (by omega)]
  unfold decTx
  rw [hk, if_pos rfl, hd]
  show fieldsTx 0 (It.lst (simI n)) = _
  unfold fieldsTx
  rw [if_pos (show (It.lst (simI n)).l = true from rfl), if_pos (show (It.lst (simI n)).its.length = (txFs 0).length from rfl), show (It.lst (simI n)).its = simI n from rfl, sim_decF h]
  show endTx (simT n) = _
  unfold endTx
  rw [if_pos (show (simT n).ty = 0 from rfl), if_pos (show chE (simT n).v = 0 from (by decide : chE 27 = 0))]
  show finTx (simT n) = _
  unfold finTx
  rw [sim_enc h]; rfl
end Go.Eng
