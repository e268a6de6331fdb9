/-
  waybillref07: Beyond answers (whatever); Same tells that two items that differ in their spare room alone are the same. Condition: at most 2^30 nodes and bytes.
  waybilllaw14.own: an item in new memory, with marks. Condition: at most 2^39 nodes and bytes.
  What AccessOne comes to, in plain words: what is read of an item has this item. No program in sight.
-/
import Derived.Test.YtnaafeeloicklaaDoorRD
namespace Go.Eng
open Go Go.Proofs
set_option maxRecDepth 100000
set_option maxHeartbeats 4000000
set_option linter.unusedVariables false

def nexts (l : List It) : List It := l.flatMap It.its
theorem nexts_bulk : ∀ l : List It, bulks (nexts l) + l.length ≤ bulks l
  | [] => Nat.le_refl _
  | x :: l => by
    have := nexts_bulk l
    obtain ⟨a, d, sd, its, ss⟩ := x
    have e : nexts (It.mk a d sd its ss :: l) = its ++ nexts l := rfl
    rw [e, bulks_append, bulks, It.bulk, List.length_cons]
    omega
theorem nexts_snoc (l : List It) (x : It) : nexts (l ++ [x]) = nexts l ++ x.its := by
  simp [nexts, List.flatMap_append]
theorem nexts_take (l : List It) (p : Nat) : bulks (nexts (l.take p)) ≤ bulks l := by
  have h1 := nexts_bulk (l.take p)
  have h2 : bulks l = bulks (l.take p) + bulks (l.drop p) := by rw [← bulks_append, List.take_append_drop]
  omega

theorem strips_get {a b : List It} (h : strips a = strips b) {p : Nat} {x : It} (hx : a[p]? = some x) : ∃ y, b[p]? = some y ∧ x.strip = y.strip := by
  have h1 := congrArg (fun l => l[p]?) h
  simp only [strips_map, List.getElem?_map, hx, Option.map_some] at h1
  obtain ⟨y, hy, e⟩ := Option.map_eq_some_iff.1 h1.symm
  exact ⟨y, hy, e.symm⟩
theorem strips_len {a b : List It} (h : strips a = strips b) : a.length = b.length := by
  have := congrArg List.length h
  rw [strips_map, strips_map, List.length_map, List.length_map] at this
  exact this

def SameC (B : Nat) (args : List PR) (k : List PR → Prop) : Prop := ∃ a b : It, args = [.a a.row, .a b.row] ∧ a.strip = b.strip ∧ a.bulk ≤ B ∧ B ≤ 2 ^ 40 ∧ k [.s (.v (.bool true))]

end Go.Eng
namespace Go.Eng
open Go Go.Proofs
set_option maxRecDepth 100000
set_option maxHeartbeats 4000000
set_option linter.unusedVariables false

def endIt : It := .mk false [195] [] [] []
mutual
def It.own : It → It
  | .mk l d _ its _ => .mk l d [b8 195] (owns its) [endIt.row]
def owns : List It → List It
  | [] => []
  | x :: xs => x.own :: owns xs
end
theorem owns_map : ∀ its : List It, owns its = its.map It.own
  | [] => rfl
  | x :: xs => by rw [owns, List.map_cons, owns_map xs]
theorem own_strip : ∀ x : It, x.own.strip = x.strip
  | .mk l d sd its ss => by
    have : ∀ its : List It, (∀ x ∈ its, x.own.strip = x.strip) → strips (owns its) = strips its := by
      intro its
      induction its with
      | nil => intro _; rfl
      | cons x xs ih => intro h; simp only [owns, strips]; rw [h x (by simp), ih fun y hy => h y (by simp [hy])]
    simp only [It.own, It.strip]
    rw [this its fun x hx => own_strip x]
termination_by x => x.bulk
decreasing_by
  have := bulk_mem hx
  simp only [It.bulk]; omega
theorem own_bulk (x : It) : x.own.bulk = x.bulk := by rw [← strip_bulk, own_strip, strip_bulk]
theorem own_byt : ∀ x : It, x.byt → x.own.byt
  | .mk l d sd its ss, h => by
    have : ∀ its : List It, (∀ x ∈ its, x.byt → x.own.byt) → byts its → byts (owns its) := by
      intro its
      induction its with
      | nil => intro _ _; trivial
      | cons x xs ih => intro h hb; exact ⟨h x (by simp) hb.1, ih (fun y hy => h y (by simp [hy])) hb.2⟩
    exact ⟨h.1, this its (fun x hx => own_byt x) h.2⟩
termination_by x => x.bulk
decreasing_by
  have := bulk_mem hx
  simp only [It.bulk]; omega

def zIt : List PS := [.c (.v (.bool false)), .c (.sl [] []), .c (.sl [] [])]
def OwnC (B : Nat) (args : List PR) (k : List PR → Prop) : Prop := ∃ it : It, args = [.a it.row] ∧ it.bulk ≤ B ∧ B ≤ 2 ^ 39 ∧ k [.a it.own.row]

end Go.Eng
namespace Go.Eng
open Go Go.Proofs
set_option linter.unusedVariables false

theorem strip_strip (x : It) : x.strip.strip = x.strip := by
  have key : ∀ n, ∀ x : It, x.bulk ≤ n → x.strip.strip = x.strip := by
    intro n
    induction n with
    | zero => intro x h; have := bulk_pos x; omega
    | succ n ih =>
      rintro ⟨l, d, sd, its, ss⟩ h
      simp only [It.bulk] at h
      have : ∀ its : List It, bulks its ≤ n → strips (strips its) = strips its := by
        intro its
        induction its with
        | nil => intro _; rfl
        | cons x xs ih2 => intro hh; simp only [bulks] at hh; simp only [strips]; rw [ih x (by omega), ih2 (by omega)]
      simp only [It.strip]
      rw [this its (by omega)]
  exact key _ x (Nat.le_refl _)
theorem strips_strips (its : List It) : strips (strips its) = strips its := by
  induction its with
  | nil => rfl
  | cons x xs ih => simp only [strips]; rw [strip_strip, ih]

theorem ke_zero {l : Bool} {x : It} (h : x.ke l = 0) : x.odd = false ∧ x.l = l := by
  unfold It.ke at h
  by_cases h1 : x.odd = true
  · rw [if_pos h1] at h; cases h
  · rw [if_neg h1] at h
    by_cases h2 : x.l = l
    · exact ⟨by simpa using h1, h2⟩
    · rw [if_neg h2] at h; cases h
theorem getList_strip {x : It} (h : x.getList.2 = 0) : x.strip = It.lst x.getList.1 ∧ strips x.getList.1 = x.getList.1 := by
  unfold It.getList at h ⊢
  by_cases h1 : x.ke true = 0
  · rw [if_pos h1]
    obtain ⟨ho, hl⟩ := ke_zero h1
    obtain ⟨l, d, sd, its, ss⟩ := x
    have hl : l = true := hl
    subst hl
    have ho : decide (0 < d.length) = false := ho
    have hd : d = [] := List.eq_nil_of_length_eq_zero (by simpa using ho)
    subst hd
    exact ⟨rfl, strips_strips its⟩
  · rw [if_neg h1] at h; exact absurd h h1
theorem ke_txt {x : It} (h : x.ke false = 0) : x.strip = It.txt x.d := by
  obtain ⟨ho, hl⟩ := ke_zero h
  obtain ⟨l, d, sd, its, ss⟩ := x
  have hl : l = false := hl
  subst hl
  have ho : decide (0 < its.length) = false := ho
  have hd : its = [] := List.eq_nil_of_length_eq_zero (by simpa using ho)
  subst hd
  rfl
theorem fixR_zero {n : Nat} {e : Int} {d : List Int} (h : (fixR n e d).2 = 0) : e = 0 ∧ (fixR n e d).1 = d := by
  unfold fixR at h ⊢
  by_cases h1 : e = 0
  · by_cases h2 : d.length = n
    · rw [if_pos h1, if_pos h2]; exact ⟨h1, rfl⟩
    · rw [if_pos h1, if_neg h2] at h; cases h
  · rw [if_neg h1] at h; exact absurd h h1
theorem getFixed_strip {n : Nat} {x : It} (h : (x.getFixed n).2 = 0) : x.strip = It.txt (x.getFixed n).1 := by
  obtain ⟨h1, h2⟩ := fixR_zero h
  rw [ke_txt h1]
  exact congrArg It.txt h2.symm
theorem getFixed_byt {n : Nat} {x : It} (hb : x.byt) (h : (x.getFixed n).2 = 0) : bytesOk (x.getFixed n).1 := by
  obtain ⟨h1, h2⟩ := fixR_zero h
  rw [show (x.getFixed n).1 = x.d from h2]
  obtain ⟨l, d, sd, its, ss⟩ := x
  exact hb.1

theorem keysOf_strip : ∀ {l : List It} {ks : List (List Int)}, keysOf l = some ks → strips l = ksIts ks ∧ ∀ w ∈ ks, w.length = 32
  | [], ks, h => by cases h; exact ⟨rfl, by simp⟩
  | x :: l, ks, h => by
    rw [keysOf] at h
    by_cases h1 : (x.getFixed 32).2 = 0
    · rw [if_pos h1] at h
      obtain ⟨ks', h2, rfl⟩ := Option.map_eq_some_iff.1 h
      obtain ⟨e1, e2⟩ := keysOf_strip h2
      refine ⟨?_, fun w hw => ?_⟩
      · rw [strips, e1, getFixed_strip h1]; rfl
      · rcases List.mem_cons.1 hw with rfl | hw
        · exact getFixed_len h1
        · exact e2 w hw
    · rw [if_neg h1] at h; cases h
theorem entOf_strip {x : It} {a : List Int} {ks : List (List Int)} (h : entOf x = some (a, ks)) : x.strip = entIt a ks ∧ a.length = 20 ∧ ∀ w ∈ ks, w.length = 32 := by
  rw [entOf] at h
  by_cases h1 : x.getList.2 = 0
  · rw [if_pos h1] at h
    obtain ⟨e1, e2⟩ := getList_strip h1
    generalize x.getList.1 = gl at *
    match gl, h with
    | [y, z], h =>
      rw [entXY] at h
      by_cases h2 : (y.getFixed 20).2 = 0
      · rw [if_pos h2, entKs] at h
        by_cases h3 : z.getList.2 = 0
        · rw [if_pos h3] at h
          obtain ⟨ks', h4, h5⟩ := Option.map_eq_some_iff.1 h
          cases h5
          obtain ⟨e3, e4⟩ := getList_strip h3
          obtain ⟨e5, e6⟩ := keysOf_strip h4
          simp only [strips, List.cons.injEq, and_true] at e2
          obtain ⟨q1, q2⟩ := e2
          refine ⟨?_, getFixed_len h2, e6⟩
          rw [e1, entIt, ← getFixed_strip h2, q1, ← e5, e4, ← e3, q2]
        · rw [if_neg h3] at h; cases h
      · rw [if_neg h2] at h; cases h
  · rw [if_neg h1] at h; cases h
theorem entsOf_strip : ∀ {l : List It} {es : List Ent}, entsOf l = some es → strips l = esIts es ∧ ∀ e ∈ es, e.a.length = 20 ∧ ∀ w ∈ e.ks, w.length = 32
  | [], es, h => by cases h; exact ⟨rfl, by simp⟩
  | x :: l, es, h => by
    rw [entsOf] at h
    cases h1 : entOf x with
    | none => rw [h1] at h; cases h
    | some p =>
      obtain ⟨a, ks⟩ := p
      rw [h1] at h
      obtain ⟨es', h2, rfl⟩ := Option.map_eq_some_iff.1 h
      obtain ⟨e1, e2⟩ := entsOf_strip h2
      obtain ⟨e3, e4⟩ := entOf_strip h1
      refine ⟨by rw [strips, e1, e3]; rfl, fun e he => ?_⟩
      rcases List.mem_cons.1 he with rfl | he
      · exact e4
      · exact e2 e he
theorem parse_strip {x : It} {es : List Ent} (h : parseOf x = some es) : x.strip = It.lst (esIts es) ∧ ∀ e ∈ es, e.a.length = 20 ∧ ∀ w ∈ e.ks, w.length = 32 := by
  rw [parseOf] at h
  by_cases h1 : x.getList.2 = 0
  · rw [if_pos h1] at h
    obtain ⟨e1, e2⟩ := getList_strip h1
    obtain ⟨e3, e4⟩ := entsOf_strip h
    exact ⟨by rw [e1, ← e3, e2], e4⟩
  · rw [if_neg h1] at h; cases h

/-! ### Numbers -/
theorem be_mod (a n : Nat) : ∀ p, be (a * 256 ^ p + n) p = be n p := fun p => by
  have key : ∀ p m a n, p ≤ m → be (a * 256 ^ m + n) p = be n p := by
    intro p
    induction p with
    | zero => intro m a n _; rfl
    | succ p ih =>
      intro m a n hm
      rw [be, be, ih m a n (by omega)]
      congr 2
      have e : a * 256 ^ m = 256 ^ p * (a * 256 ^ (m - p - 1) * 256) := by
        rw [show (256 : Nat) ^ m = 256 ^ p * (256 ^ (m - p - 1) * 256) by rw [← Nat.pow_succ, ← Nat.pow_add]; congr 1; omega]
        rw [Nat.mul_left_comm, Nat.mul_assoc]
      rw [e, Nat.mul_add_div (Nat.pow_pos (by omega)), Nat.add_comm, Nat.add_mul_mod_self_right]
  exact key p p a n (Nat.le_refl _)
theorem be_bev : ∀ {d : List Int}, bytesOk d → be (bev d) d.length = d
  | [], _ => rfl
  | b :: l, h => by
    have hb := h b (by simp)
    have hl : bytesOk l := fun x hx => h x (by simp [hx])
    have h1 := bev_lt hl
    have hp : 0 < 256 ^ l.length := Nat.pow_pos (by omega)
    rw [bev_cons, List.length_cons, be, be_mod, be_bev hl]
    congr 1
    rw [Nat.mul_comm, Nat.mul_add_div hp, Nat.div_eq_of_lt h1, Nat.add_zero, Nat.mod_eq_of_lt (by omega)]
    omega
theorem strict_back {d : List Int} (h : bytesOk d) (hs : (strictR d).2 = 0) : d = numB (strictR d).1 := by
  cases d with
  | nil => rfl
  | cons b l =>
    by_cases h0 : b = 0
    · simp only [strictR, if_pos h0] at hs; cases hs
    · have e : (strictR (b :: l)).1 = bev (b :: l) := by simp only [strictR, if_neg h0]
      have hb := h b (by simp)
      have h1 := bev_lt h
      have h2 : 256 ^ l.length ≤ bev (b :: l) := by
        rw [bev_cons]
        have : 1 * 256 ^ l.length ≤ b.toNat * 256 ^ l.length := Nat.mul_le_mul_right _ (by omega)
        omega
      have hne : bev (b :: l) ≠ 0 := by have : 0 < 256 ^ l.length := Nat.pow_pos (by omega); omega
      have h3 := lt_pow_blen (bev (b :: l))
      have h4 := pow_blen_le hne
      have h5 : l.length < blen (bev (b :: l)) := (Nat.pow_lt_pow_iff_right (a := 256) (by omega)).1 (Nat.lt_of_le_of_lt h2 h3)
      have h6 : blen (bev (b :: l)) - 1 < l.length + 1 := (Nat.pow_lt_pow_iff_right (a := 256) (by omega)).1 (Nat.lt_of_le_of_lt h4 h1)
      have h7 : blen (bev (b :: l)) = (b :: l).length := by rw [List.length_cons]; omega
      rw [e, numB, h7, be_bev h]
theorem num_strip {m : Nat} {x : It} (hb : x.byt) (h : (x.num m).2 = 0) : x.strip = numIt (x.num m).1 := by
  have hd : bytesOk x.d := by obtain ⟨l, d, sd, its, ss⟩ := x; exact hb.1
  have h' : (numR m (x.ke false) x.d).2 = 0 := h
  have key : x.ke false = 0 ∧ (numR m (x.ke false) x.d).1 = (strictR x.d).1 ∧ (strictR x.d).2 = 0 := by
    unfold numR at h' ⊢
    by_cases h1 : x.ke false = 0
    · rw [if_pos h1] at h' ⊢
      by_cases h2 : m < x.d.length
      · rw [if_pos h2] at h'; cases h'
      · rw [if_neg h2] at h' ⊢
        by_cases h3 : (strictR x.d).2 = 0
        · rw [if_pos h3]; exact ⟨h1, rfl, h3⟩
        · rw [if_neg h3] at h'; cases h'
    · rw [if_neg h1] at h'; exact absurd h' h1
  obtain ⟨k1, k2, k3⟩ := key
  rw [ke_txt k1, numIt]
  congr 1
  rw [show (x.num m).1 = (strictR x.d).1 from k2]
  exact strict_back hd k3

theorem authOf_strip {x : It} {u : Au} (hb : x.byt) (h : authOf x = some u) : x.strip = u.it ∧ u.ok ∧ bytesOk u.a ∧ u.pa ≤ 255 := by
  rw [authOf] at h
  by_cases h1 : x.getList.2 = 0
  · rw [if_pos h1] at h
    obtain ⟨e1, e2⟩ := getList_strip h1
    have hby := getList_byt hb
    generalize x.getList.1 = gl at *
    match gl, h with
    | [x0, x1, x2, x3, x4, x5], h =>
      rw [auOf] at h
      obtain ⟨y0, y1, y2, y3, y4, y5, -⟩ := hby
      split at h
      case isFalse => cases h
      rename_i q0
      split at h
      case isFalse => cases h
      rename_i q1
      split at h
      case isFalse => cases h
      rename_i q2
      split at h
      case isFalse => cases h
      rename_i q3
      split at h
      case isFalse => cases h
      rename_i q4
      split at h
      case isFalse => cases h
      rename_i q5
      cases h
      simp only [strips, List.cons.injEq, and_true] at e2
      obtain ⟨z0, z1, z2, z3, z4, z5⟩ := e2
      refine ⟨?_, ⟨num_lt y0, getFixed_len q1, num_lt y2, num_lt y3, num_lt y4, num_lt y5⟩, getFixed_byt y1 q1, q3.2⟩
      rw [e1, Au.it, Au.parts]
      simp only
      rw [← num_strip y0 q0, ← getFixed_strip q1, ← num_strip y2 q2, ← num_strip y3 q3.1, ← num_strip y4 q4, ← num_strip y5 q5, z0, z1, z2, z3, z4, z5]
  · rw [if_neg h1] at h; cases h
theorem ausOf_strip : ∀ {l : List It} {us : List Au}, byts l → ausOf l = some us → strips l = usIts us ∧ (∀ u ∈ us, u.ok ∧ bytesOk u.a) ∧ wideU us = false
  | [], us, _, h => by cases h; exact ⟨rfl, by simp, rfl⟩
  | x :: l, us, hb, h => by
    rw [ausOf] at h
    cases h1 : authOf x with
    | none => rw [h1] at h; cases h
    | some u =>
      rw [h1] at h
      obtain ⟨us', h2, rfl⟩ := Option.map_eq_some_iff.1 h
      obtain ⟨e1, e2, e3⟩ := ausOf_strip hb.2 h2
      obtain ⟨e4, e5, e6, e7⟩ := authOf_strip hb.1 h1
      refine ⟨by rw [strips, e1, e4]; rfl, fun v hv => ?_, ?_⟩
      · rcases List.mem_cons.1 hv with rfl | hv
        · exact ⟨e5, e6⟩
        · exact e2 v hv
      · rw [wideU, List.any_cons, ← wideU, e3, Bool.or_false, decide_eq_false_iff_not]; omega
theorem parseA_strip {x : It} {us : List Au} (hb : x.byt) (h : parseAOf x = some us) : x.strip = It.lst (usIts us) ∧ (∀ u ∈ us, u.ok ∧ bytesOk u.a) ∧ wideU us = false := by
  rw [parseAOf] at h
  by_cases h1 : x.getList.2 = 0
  · rw [if_pos h1] at h
    obtain ⟨e1, e2⟩ := getList_strip h1
    obtain ⟨e3, e4, e5⟩ := ausOf_strip (getList_byt hb) h
    exact ⟨by rw [e1, ← e3, e2], e4, e5⟩
  · rw [if_neg h1] at h; cases h
end Go.Eng
