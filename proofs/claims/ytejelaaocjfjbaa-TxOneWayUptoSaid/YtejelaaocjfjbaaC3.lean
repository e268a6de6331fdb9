/-
  What is read of bytes is written as these bytes, and what is written is read back. No program in sight.
-/
import Derived.Test.YtejelaaocjfjbaaC2
import Derived.Test.YtejelaaocjfjbaaLA
import Derived.Test.YtejelaaocjfjbaaRE
namespace Go.Eng
open Go Go.Proofs
set_option linter.unusedVariables false
set_option maxRecDepth 10000

theorem blen_pos {n : Nat} (h : 1 ≤ n) : 1 ≤ blen n := by
  have := lt_pow_blen n
  rcases Nat.eq_zero_or_pos (blen n) with h0 | h0
  · rw [h0] at this; omega
  · exact h0
theorem numB_head {n : Nat} (h : 1 ≤ n) : ∃ b l, numB n = b :: l ∧ b ≠ 0 := by
  have h1 := strict_numB n
  cases hb : numB n with
  | nil =>
    have := congrArg List.length hb
    rw [numB, be_length, List.length_nil] at this
    have := blen_pos h
    omega
  | cons b l =>
    refine ⟨b, l, rfl, fun h0 => ?_⟩
    rw [hb, strictR, if_pos h0] at h1
    cases h1

def kindH (l : Bool) : Int := if l = true then 192 else 128

/-- The head that is written is the one that is cut off. -/
theorem cut_hd (l : Bool) (q r : List Int) (hq : q.length < 18446744073709551616) : cutR (hd (kindH l) q.length ++ (q ++ r)) = cutF l q.length (q ++ r) := by
  have cutcase : ∀ (c : Int) (m : Nat) (b : List Int), c = kindH l + m → m ≤ 63 → cutR (c :: b) = cutL l m b := fun c m b hc hm => by
    cases l with
    | true =>
      have hc : c = 192 + m := hc
      simp only [cutR]
      rw [if_neg (by omega), if_pos (by omega), show (c - 192).toNat = m by omega]
    | false =>
      have hc : c = 128 + m := hc
      simp only [cutR]
      rw [if_neg (by omega), if_neg (by omega), show (c - 128).toNat = m by omega]
  have hk : kindH l = 192 ∨ kindH l = 128 := by cases l; exact .inr rfl; exact .inl rfl
  unfold hd
  split
  · rename_i h55
    have e : (kindH l + (q.length : Int)) % 256 = kindH l + (q.length : Nat) := by omega
    rw [e, List.singleton_append, cutcase _ q.length _ rfl (by omega), cutL, if_neg (by omega)]
  · rename_i h55
    have h8 := bl_le64' hq
    have h1 := blen_pos (n := q.length) (by omega)
    have e : (kindH l + 55 + (blen q.length : Int)) % 256 = kindH l + ((55 + blen q.length : Nat) : Int) := by omega
    obtain ⟨b0, bt, hb0, hne⟩ := numB_head (n := q.length) (by omega)
    have hlen : (be q.length (blen q.length)).length = blen q.length := be_length _ _
    rw [e, List.cons_append, cutcase _ (55 + blen q.length) _ rfl (by omega), cutL, if_pos (by omega), show 55 + blen q.length - 55 = blen q.length by omega]
    have htk : (be q.length (blen q.length) ++ (q ++ r)).take (blen q.length) = be q.length (blen q.length) := by rw [List.take_left' hlen]
    have hdr : (be q.length (blen q.length) ++ (q ++ r)).drop (blen q.length) = q ++ r := by rw [List.drop_left' hlen]
    have hv : bev (be q.length (blen q.length)) = q.length := bev_numB _
    have hg : (be q.length (blen q.length) ++ (q ++ r)).getD 0 0 = b0 := by
      rw [show be q.length (blen q.length) = b0 :: bt from hb0]; rfl
    rw [htk, hdr, hv, hg, if_neg (by rw [List.length_append, hlen]; omega), if_neg (by omega), if_neg (by rw [List.length_append]; omega)]

theorem cutF_app {l : Bool} {q r : List Int} (h : l = false → q.length ≠ 1 ∨ 128 ≤ q.getD 0 0) : cutF l q.length (q ++ r) = (l, q, r, 0) := by
  unfold cutF
  rw [if_neg (by rw [List.length_append]; omega), if_neg, List.take_left' rfl, List.drop_left' rfl]
  rintro ⟨hl, h1, h2⟩
  rcases h hl with h3 | h3
  · exact h3 h1
  · obtain ⟨b, hb⟩ : ∃ b, q = [b] := by
      match q, h1 with
      | [b], _ => exact ⟨b, rfl⟩
    rw [hb] at h2 h3
    have h2 : b < 128 := h2
    have h3 : 128 ≤ b := h3
    omega

theorem cut_encT (q r : List Int) (hq : q.length < 18446744073709551616) (hb : bytesOk q) : cutR (encT q ++ r) = (false, q, r, 0) := by
  unfold encT
  split
  · rename_i h
    rw [List.append_assoc]
    exact (cut_hd false q r hq).trans (cutF_app fun _ => h)
  · rename_i h
    obtain ⟨b, hb1⟩ : ∃ b, q = [b] := by
      match q, (show q.length = 1 by omega) with
      | [b], _ => exact ⟨b, rfl⟩
    subst hb1
    have h2 : b < 128 := by
      have : ¬ 128 ≤ ([b] : List Int).getD 0 0 := fun h' => h (.inr h')
      have h3 : ([b] : List Int).getD 0 0 = b := rfl
      omega
    simp only [List.singleton_append, cutR]
    rw [if_pos h2]
theorem cut_encL (q r : List Int) (hq : q.length < 18446744073709551616) : cutR (hd 192 q.length ++ (q ++ r)) = (true, q, r, 0) :=
  (cut_hd true q r hq).trans (cutF_app fun h => by cases h)

theorem cutF_back {l l' : Bool} {n : Nat} {b q r : List Int} (h : cutF l n b = (l', q, r, 0)) : l' = l ∧ b = q ++ r ∧ q.length = n ∧ ¬ (l = false ∧ n = 1 ∧ b.getD 0 0 < 128) := by
  unfold cutF at h
  split at h
  · cases h
  · split at h
    · cases h
    · rename_i h1 h2
      cases h
      exact ⟨rfl, (List.take_append_drop _ _).symm, by rw [List.length_take]; omega, h2⟩

theorem cutL_back {l l' : Bool} {n : Nat} {b q r : List Int} (hb : bytesOk b) (hn : n ≤ 63) (h : cutL l n b = (l', q, r, 0)) : l' = l ∧ (kindH l + n) :: b = hd (kindH l) q.length ++ (q ++ r) ∧ (l = false → q.length ≠ 1 ∨ 128 ≤ q.getD 0 0) := by
  have hk : kindH l = 192 ∨ kindH l = 128 := by cases l; exact .inr rfl; exact .inl rfl
  have hbig : q.length ≠ 1 ∨ (l = false → q.length ≠ 1 ∨ 128 ≤ q.getD 0 0) → (l = false → q.length ≠ 1 ∨ 128 ≤ q.getD 0 0) := fun h => h.elim (fun h _ => .inl h) id
  unfold cutL at h
  split at h
  · rename_i h55
    split at h
    · cases h
    · rename_i h1
      split at h
      · cases h
      · rename_i h2
        split at h
        · cases h
        · rename_i h3
          obtain ⟨e1, e2, e3, e4⟩ := cutF_back h
          have h2' : b.getD 0 0 ≠ 0 ∧ 55 < bev (b.take (n - 55)) := by omega
          obtain ⟨b0, bt, hbb⟩ : ∃ b0 bt, b = b0 :: bt := by
            cases b with
            | nil => exact absurd rfl h2'.1
            | cons b0 bt => exact ⟨b0, bt, rfl⟩
          obtain ⟨m, hm⟩ : ∃ m, n - 55 = m + 1 := ⟨n - 56, by omega⟩
          have htk : b.take (n - 55) = b0 :: bt.take m := by rw [hbb, hm]; rfl
          have hne : b0 ≠ 0 := by have := h2'.1; rw [hbb] at this; exact this
          have hs : strictR (b.take (n - 55)) = (bev (b.take (n - 55)), 0) := by rw [htk, strictR, if_neg hne]
          have hback := strict_back (d := b.take (n - 55)) (fun x hx => hb x (List.mem_of_mem_take hx)) (by rw [hs])
          rw [hs] at hback
          have hlen := congrArg List.length hback
          rw [List.length_take, numB, be_length, Nat.min_eq_left (by omega)] at hlen
          refine ⟨e1, ?_, hbig (.inl (by omega))⟩
          rw [← e2, e3]
          unfold hd
          rw [if_neg (by omega), ← hlen, List.cons_append]
          have e5 : be (bev (b.take (n - 55))) (n - 55) = b.take (n - 55) := by
            conv => rhs; rw [hback, numB]
            rw [← hlen]
          rw [e5, List.take_append_drop]
          congr 1
          omega
  · rename_i h55
    obtain ⟨e1, e2, e3, e4⟩ := cutF_back h
    refine ⟨e1, ?_, fun hl => ?_⟩
    · rw [e2, e3]
      unfold hd
      rw [if_pos (by omega), List.singleton_append]
      congr 1
      omega
    · rcases Nat.lt_or_ge 1 q.length with h1 | h1
      · exact .inl (by omega)
      · by_cases h0 : q.length = 1
        · right
          obtain ⟨x, hx⟩ : ∃ x, q = [x] := by
            match q, h0 with
            | [x], _ => exact ⟨x, rfl⟩
          have : ¬ b.getD 0 0 < 128 := fun h => e4 ⟨hl, by omega, h⟩
          rw [e2, hx] at this
          rw [hx]
          have this : ¬ x < 128 := this
          show 128 ≤ x
          omega
        · exact .inl h0

/-- What is cut off is a head as it is written. -/
theorem cutR_back {d q r : List Int} {l : Bool} (hb : bytesOk d) (h : cutR d = (l, q, r, 0)) : (l = false ∧ d = encT q ++ r) ∨ (l = true ∧ d = hd 192 q.length ++ (q ++ r)) := by
  cases d with
  | nil => cases h
  | cons c b =>
    have hc := hb c (by simp)
    have hb' : bytesOk b := fun x hx => hb x (by simp [hx])
    simp only [cutR] at h
    split at h
    · rename_i h1
      cases h
      refine .inl ⟨rfl, ?_⟩
      unfold encT
      rw [if_neg]
      · rfl
      · rintro (h2 | h2)
        · exact h2 rfl
        · have : (128 : Int) ≤ c := h2
          omega
    · split at h
      · rename_i h1 h2
        obtain ⟨e1, e2, e3⟩ := cutL_back hb' (by omega) h
        refine .inr ⟨e1, ?_⟩
        rw [← show kindH true = 192 from rfl, ← e2]
        congr 1
        show c = 192 + _
        omega
      · rename_i h1 h2
        obtain ⟨e1, e2, e3⟩ := cutL_back hb' (by omega) h
        refine .inl ⟨e1, ?_⟩
        unfold encT
        rw [if_pos (e3 rfl), List.append_assoc, ← show kindH false = 128 from rfl, ← e2]
        congr 1
        show c = 128 + _
        omega

theorem encT_pos (q : List Int) : 1 ≤ (encT q).length ∧ q.length ≤ (encT q).length ∧ 1 + q.length ≤ 2 * (encT q).length := by
  unfold encT
  have hp : ∀ n, 1 ≤ (hd 128 n).length := fun n => by unfold hd; split <;> simp
  split
  · have := hp q.length
    rw [List.length_append]; omega
  · have : q.length = 1 := by omega
    omega
theorem hd_pos (f : Int) (n : Nat) : 1 ≤ (hd f n).length := by unfold hd; split <;> simp

/-- What is known of items that have been read. -/
structure Read (w : Nat) (p : List Int) (its : List It) : Prop where
  e : encs its = p
  s : strips its = its
  b : byts its
  o : okSs its = true
  d : depths its + w ≤ 1024
  n : bulks its ≤ 2 * p.length

theorem dec_read : ∀ (n w : Nat) (p : List Int) (its : List It), p.length ≤ n → bytesOk p → w ≤ 1024 → dec w p = .ok its → Read w p its := by
  intro n
  induction n with
  | zero =>
    intro w p its hn hb hw h
    have : p = [] := List.eq_nil_of_length_eq_zero (by omega)
    subst this
    cases h
    exact ⟨rfl, rfl, trivial, rfl, by simp only [depths]; omega, Nat.zero_le _⟩
  | succ n ih =>
    intro w p its hn hb hw h
    by_cases hp : p = []
    · subst hp
      cases h
      exact ⟨rfl, rfl, trivial, rfl, by simp only [depths]; omega, Nat.zero_le _⟩
    rw [dec_cons w hp] at h
    obtain ⟨l, q, r, e, hc⟩ : ∃ l q r e, cutR p = (l, q, r, e) := ⟨_, _, _, _, rfl⟩
    rw [hc] at h
    simp only at h
    split at h
    · rename_i he
      subst he
      have hlen := cutR_len (d := p) (by rw [hc])
      rw [hc] at hlen
      simp only at hlen
      have hsub := cutR_sub (P := fun x : Int => 0 ≤ x ∧ x < 256) hb
      rw [hc] at hsub
      have hqb : bytesOk q := hsub.1
      have hrb : bytesOk r := hsub.2
      rcases cutR_back hb hc with ⟨hl, hd'⟩ | ⟨hl, hd'⟩
      · subst hl
        rw [if_neg (by decide)] at h
        split at h
        · cases h
        · rename_i xs hx
          cases h
          obtain ⟨h1, h2, h3, h4, h5, h6⟩ := ih w r xs (by omega) hrb hw hx
          have hpl : p.length = (encT q).length + r.length := by conv => lhs; rw [hd', List.length_append]
          have := encT_pos q
          refine ⟨?_, ?_, ⟨⟨hqb, trivial⟩, h3⟩, ?_, ?_, ?_⟩
          · rw [encs, h1, hd']; rfl
          · rw [strips, h2]; rfl
          · rw [okSs, h4]; rfl
          · simp only [depths, It.txt, dep]; omega
          · simp only [bulks, It.txt, It.bulk]; omega
      · subst hl
        rw [if_pos rfl] at h
        split at h
        · cases h
        · rename_i hw1
          split at h
          · cases h
          · rename_i its' hi
            split at h
            · cases h
            · rename_i xs hx
              cases h
              obtain ⟨h1, h2, h3, h4, h5, h6⟩ := ih w r xs (by omega) hrb hw hx
              have hq1 := hlen.2.2 rfl
              obtain ⟨g1, g2, g3, g4, g5, g6⟩ := ih (w + 1) q its' (by omega) hqb (by omega) hi
              have hpl : p.length = (hd 192 q.length).length + (q.length + r.length) := by conv => lhs; rw [hd', List.length_append, List.length_append]
              have := hd_pos 192 q.length
              refine ⟨?_, ?_, ⟨⟨fun _ h => (by cases h), g3⟩, h3⟩, ?_, ?_, ?_⟩
              · rw [encs, h1, It.lst, enc, g1, hd', List.append_assoc]
              · rw [strips, h2, strip_lst, g2]
              · rw [okSs, h4, It.lst, okS, g4]; rfl
              · simp only [depths, It.lst, dep]; omega
              · simp only [bulks, It.lst, It.bulk, List.length_nil]; omega
    · cases h

/-- What is known of an item that has been read. -/
theorem decR_read {d : List Int} {it : It} (hb : bytesOk d) (h : decR d = .ok it) : Read 0 d [it] := by
  unfold decR at h
  split at h
  · cases h
  · unfold cItem at h
    obtain ⟨l, q, r, e, hc⟩ : ∃ l q r e, cutR d = (l, q, r, e) := ⟨_, _, _, _, rfl⟩
    rw [hc] at h
    simp only at h
    split at h
    · rename_i he
      subst he
      have hne : d ≠ [] := fun e => by rw [e] at hc; cases hc
      refine dec_read d.length 0 d [it] (Nat.le_refl _) hb (by omega) ?_
      rw [dec_cons 0 hne, hc]
      simp only [if_true]
      split at h
      · rename_i hl
        subst hl
        rw [if_pos rfl, if_neg (by omega)]
        rw [if_neg (by decide)] at h
        unfold cWithin at h
        split at h
        · cases h
        · rename_i its hi
          have hi : dec (0 + 1) q = .ok its := hi
          rw [hi]
          simp only [cEnd, List.nil_append] at h
          split at h
          · rename_i hr
            cases h
            subst hr
            rfl
          · cases h
      · rename_i hl
        rw [if_neg hl]
        simp only [cEnd] at h
        split at h
        · rename_i hr
          cases h
          subst hr
          rfl
        · cases h
    · cases h

/-- What is written is read back. -/
theorem dec_back : ∀ (n w : Nat) (its : List It), bulks its ≤ n → strips its = its → byts its → okSs its = true → depths its + w ≤ 1024 → (encs its).length < 18446744073709551616 → dec w (encs its) = .ok its := by
  intro n
  induction n with
  | zero =>
    intro w its hn
    cases its with
    | nil => intros; rfl
    | cons x xs => have := bulk_pos x; simp only [bulks] at hn; omega
  | succ n ih =>
    intro w its hn hs hb ho hd' hl
    cases its with
    | nil => rfl
    | cons x xs =>
      obtain ⟨l, d, sd, its', ss⟩ := x
      simp only [bulks, It.bulk] at hn
      simp only [strips, List.cons.injEq, It.strip, It.mk.injEq] at hs
      obtain ⟨⟨_, _, hsd, hsi, hss⟩, hsx⟩ := hs
      obtain ⟨⟨hbd, hbi⟩, hbx⟩ := hb
      simp only [okSs, Bool.and_eq_true] at ho
      obtain ⟨hox, hoxs⟩ := ho
      simp only [depths] at hd'
      subst hsd; subst hss
      cases l with
      | false =>
        simp only [okS, decide_eq_true_eq] at hox
        have : its' = [] := List.eq_nil_of_length_eq_zero hox
        subst this
        have he : encs (It.mk false d [] [] [] :: xs) = encT d ++ encs xs := rfl
        rw [he] at hl ⊢
        rw [List.length_append] at hl
        have hdl := encT_pos d
        have hne : encT d ++ encs xs ≠ [] := fun e => by have := congrArg List.length e; rw [List.length_append, List.length_nil] at this; omega
        rw [dec_cons w hne, cut_encT d (encs xs) (by omega) hbd]
        simp only [if_true]
        rw [if_neg (by decide), ih w xs (by omega) hsx hbx hoxs (by omega) (by omega)]
        rfl
      | true =>
        simp only [okS, Bool.and_eq_true, decide_eq_true_eq] at hox
        have : d = [] := List.eq_nil_of_length_eq_zero hox.1
        subst this
        simp only [dep] at hd'
        have he : encs (It.mk true [] [] its' [] :: xs) = hd 192 (encs its').length ++ (encs its' ++ encs xs) := by rw [encs, enc, List.append_assoc]
        rw [he] at hl ⊢
        rw [List.length_append, List.length_append] at hl
        have := hd_pos 192 (encs its').length
        have hne : hd 192 (encs its').length ++ (encs its' ++ encs xs) ≠ [] := fun e => by have := congrArg List.length e; rw [List.length_append, List.length_nil] at this; omega
        rw [dec_cons w hne, cut_encL (encs its') (encs xs) (by omega)]
        simp only [if_true]
        rw [if_neg (by omega), ih (w + 1) its' (by omega) hsi hbi hox.2 (by omega) (by omega), ih w xs (by omega) hsx hbx hoxs (by omega) (by omega)]
        rfl

theorem decR_back {it : It} (hs : it.strip = it) (hb : it.byt) (ho : okS it = true) (hd' : dep it ≤ 1024) (hl : (enc it).length ≤ 16777216) : decR (enc it) = .ok it := by
  have hall := dec_back (bulks [it]) 0 [it] (Nat.le_refl _) (by rw [strips, hs]; rfl) ⟨hb, trivial⟩ (by rw [okSs, ho]; rfl) (by simp only [depths]; omega) (by simp only [encs, List.append_nil]; omega)
  simp only [encs, List.append_nil] at hall
  unfold decR
  rw [if_neg (by omega)]
  have hne : enc it ≠ [] := fun e => by rw [e, dec_nil] at hall; cases hall
  rw [dec_cons 0 hne] at hall
  unfold cItem
  split at hall
  · rename_i he
    rw [if_pos he]
    split at hall
    · rename_i hlist
      rw [if_pos hlist]
      rw [if_neg (by omega)] at hall
      rw [if_neg (show ¬ ([] : List Opn).length = 1024 by simp)]
      unfold cWithin
      split at hall
      · cases hall
      · rename_i its hi
        have hi : dec (([] : List Opn).length + 1) (cutR (enc it)).2.1 = .ok its := hi
        rw [hi]
        split at hall
        · cases hall
        · rename_i xs hx
          simp only [Except.ok.injEq, List.cons.injEq] at hall
          obtain ⟨h1, h2⟩ := hall
          subst h2
          have hr : (cutR (enc it)).2.2.1 = [] := by
            cases hr : (cutR (enc it)).2.2.1 with
            | nil => rfl
            | cons c b =>
              rw [hr] at hx
              rw [dec_cons 0 (by simp)] at hx
              split at hx
              · split at hx
                · split at hx
                  · cases hx
                  · split at hx
                    · cases hx
                    · split at hx <;> cases hx
                · split at hx <;> cases hx
              · cases hx
          simp only [cEnd, hr, if_true, List.nil_append, h1]
    · rename_i hlist
      rw [if_neg hlist]
      split at hall
      · cases hall
      · rename_i xs hx
        simp only [Except.ok.injEq, List.cons.injEq] at hall
        obtain ⟨h1, h2⟩ := hall
        subst h2
        have hr : (cutR (enc it)).2.2.1 = [] := by
          cases hr : (cutR (enc it)).2.2.1 with
          | nil => rfl
          | cons c b =>
            rw [hr] at hx
            rw [dec_cons 0 (by simp)] at hx
            split at hx
            · split at hx
              · split at hx
                · cases hx
                · split at hx
                  · cases hx
                  · split at hx <;> cases hx
              · split at hx <;> cases hx
            · cases hx
        simp only [cEnd, hr, if_true, h1]
  · cases hall
end Go.Eng
