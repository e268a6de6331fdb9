import Derived.Test.YtgihmigiecfmaaaDoorRC
namespace Go.Eng
open Go Go.Proofs
set_option maxRecDepth 100000
set_option maxHeartbeats 4000000
set_option linter.unusedVariables false
end Go.Eng
namespace Go.Eng
open Go Go.Proofs
set_option maxRecDepth 100000
set_option maxHeartbeats 4000000
set_option linter.unusedVariables false
def endIt : It := .mk false [195] [] [] []
mutual
def It.own : It → It
 | .mk l d _ its _ => .mk l d [b8 195] (owns its) [endIt.row]
def owns : List It → List It
 | [] => []
 | x :: xs => x.own :: owns xs
end
end Go.Eng
namespace Go.Eng
open Go Go.Proofs
set_option linter.unusedVariables false
theorem strip_strip (x : It) : x.strip.strip = x.strip := by
 have key : ∀ n, ∀ x : It, x.bulk ≤ n → x.strip.strip = x.strip := by
  intro n
  induction n with
  | zero => intro x h; have := bulk_pos x; omega
  | succ n ih =>
   rintro ⟨l, d, sd, its, ss⟩ h
   simp only [It.bulk] at h
   have : ∀ its : List It, bulks its ≤ n → strips (strips its) = strips its := by
    intro its
    induction its with
    | nil => intro _; rfl
    | cons x xs ih2 => intro hh; simp only [bulks] at hh; simp only [strips]; rw [ih x (by omega), ih2 (by omega)]
   simp only [It.strip]
   rw [this its (by omega)]
 exact key _ x (Nat.le_refl _)
theorem strips_strips (its : List It) : strips (strips its) = strips its := by
 induction its with
 | nil => rfl
 | cons x xs ih => simp only [strips]; rw [strip_strip, ih]
theorem ke_zero {l : Bool} {x : It} (h : x.ke l = 0) : x.odd = false ∧ x.l = l := by
 unfold It.ke at h
 by_cases h1 : x.odd = true
 ·rw [if_pos h1] at h; cases h
 ·rw [if_neg h1] at h
  by_cases h2 : x.l = l
  ·exact ⟨by simpa using h1, h2⟩
  ·rw [if_neg h2] at h; cases h
theorem getList_strip {x : It} (h : x.getList.2 = 0) : x.strip = It.lst x.getList.1 ∧ strips x.getList.1 = x.getList.1 := by
 unfold It.getList at h ⊢
 by_cases h1 : x.ke true = 0
 ·rw [if_pos h1]
  obtain ⟨ho, hl⟩ := ke_zero h1
  obtain ⟨l, d, sd, its, ss⟩ := x
  have hl : l = true := hl
  subst hl
  have ho : decide (0 < d.length) = false := ho
  have hd : d = [] := List.eq_nil_of_length_eq_zero (by simpa using ho)
  subst hd
  exact ⟨rfl, strips_strips its⟩
 ·rw [if_neg h1] at h; exact absurd h h1
theorem ke_txt {x : It} (h : x.ke false = 0) : x.strip = It.txt x.d := by
 obtain ⟨ho, hl⟩ := ke_zero h
 obtain ⟨l, d, sd, its, ss⟩ := x
 have hl : l = false := hl
 subst hl
 have ho : decide (0 < its.length) = false := ho
 have hd : its = [] := List.eq_nil_of_length_eq_zero (by simpa using ho)
 subst hd
 rfl
theorem fixR_zero {n : Nat} {e : Int} {d : List Int} (h : (fixR n e d).2 = 0) : e = 0 ∧ (fixR n e d).1 = d := by
 unfold fixR at h ⊢
 by_cases h1 : e = 0
 ·by_cases h2 : d.length = n
  ·rw [if_pos h1, if_pos h2]; exact ⟨h1, rfl⟩
  ·rw [if_pos h1, if_neg h2] at h; cases h
 ·rw [if_neg h1] at h; exact absurd h h1
theorem getFixed_strip {n : Nat} {x : It} (h : (x.getFixed n).2 = 0) : x.strip = It.txt (x.getFixed n).1 := by
 obtain ⟨h1, h2⟩ := fixR_zero h
 rw [ke_txt h1]
 exact congrArg It.txt h2.symm
theorem getFixed_byt {n : Nat} {x : It} (hb : x.byt) (h : (x.getFixed n).2 = 0) : bytesOk (x.getFixed n).1 := by
 obtain ⟨h1, h2⟩ := fixR_zero h
 rw [show (x.getFixed n).1 = x.d from h2]
 obtain ⟨l, d, sd, its, ss⟩ := x
 exact hb.1
theorem keysOf_strip : ∀ {l : List It} {ks : List (List Int)}, keysOf l = some ks → strips l = ksIts ks ∧ ∀ w ∈ ks, w.length = 32
 | [], ks, h => by cases h; exact ⟨rfl, by simp⟩
 | x :: l, ks, h => by
  rw [keysOf] at h
  by_cases h1 : (x.getFixed 32).2 = 0
  ·rw [if_pos h1] at h
   obtain ⟨ks', h2, rfl⟩ := Option.map_eq_some_iff.1 h
   obtain ⟨e1, e2⟩ := keysOf_strip h2
   refine ⟨?_, fun w hw => ?_⟩
   ·rw [strips, e1, getFixed_strip h1]; rfl
   ·rcases List.mem_cons.1 hw with rfl | hw
    ·exact getFixed_len h1
    ·exact e2 w hw
  ·rw [if_neg h1] at h; cases h
theorem entOf_strip {x : It} {a : List Int} {ks : List (List Int)} (h : entOf x = some (a, ks)) : x.strip = entIt a ks ∧ a.length = 20 ∧ ∀ w ∈ ks, w.length = 32 := by
 rw [entOf] at h
 by_cases h1 : x.getList.2 = 0
 ·rw [if_pos h1] at h
  obtain ⟨e1, e2⟩ := getList_strip h1
  generalize x.getList.1 = gl at *
  match gl, h with
  | [y, z], h =>
   rw [entXY] at h
   by_cases h2 : (y.getFixed 20).2 = 0
   ·rw [if_pos h2, entKs] at h
    by_cases h3 : z.getList.2 = 0
    ·rw [if_pos h3] at h
     obtain ⟨ks', h4, h5⟩ := Option.map_eq_some_iff.1 h
     cases h5
     obtain ⟨e3, e4⟩ := getList_strip h3
     obtain ⟨e5, e6⟩ := keysOf_strip h4
     simp only [strips, List.cons.injEq, and_true] at e2
     obtain ⟨q1, q2⟩ := e2
     refine ⟨?_, getFixed_len h2, e6⟩
     rw [e1, entIt, ← getFixed_strip h2, q1, ← e5, e4, ← e3, q2]
    ·rw [if_neg h3] at h; cases h
   ·rw [if_neg h2] at h; cases h
 ·rw [if_neg h1] at h; cases h
theorem entsOf_strip : ∀ {l : List It} {es : List Ent}, entsOf l = some es → strips l = esIts es ∧ ∀ e ∈ es, e.a.length = 20 ∧ ∀ w ∈ e.ks, w.length = 32
 | [], es, h => by cases h; exact ⟨rfl, by simp⟩
 | x :: l, es, h => by
  rw [entsOf] at h
  cases h1 : entOf x with
  | none => rw [h1] at h; cases h
  | some p =>
   obtain ⟨a, ks⟩ := p
   rw [h1] at h
   obtain ⟨es', h2, rfl⟩ := Option.map_eq_some_iff.1 h
   obtain ⟨e1, e2⟩ := entsOf_strip h2
   obtain ⟨e3, e4⟩ := entOf_strip h1
   refine ⟨by rw [strips, e1, e3]; rfl, fun e he => ?_⟩
   rcases List.mem_cons.1 he with rfl | he
   ·exact e4
   ·exact e2 e he
theorem parse_strip {x : It} {es : List Ent} (h : parseOf x = some es) : x.strip = It.lst (esIts es) ∧ ∀ e ∈ es, e.a.length = 20 ∧ ∀ w ∈ e.ks, w.length = 32 := by
 rw [parseOf] at h
 by_cases h1 : x.getList.2 = 0
 ·rw [if_pos h1] at h
  obtain ⟨e1, e2⟩ := getList_strip h1
  obtain ⟨e3, e4⟩ := entsOf_strip h
  exact ⟨by rw [e1, ← e3, e2], e4⟩
 ·rw [if_neg h1] at h; cases h
theorem be_mod (a n : Nat) : ∀ p, be (a * 256 ^ p + n) p = be n p := fun p => by
 have key : ∀ p m a n, p ≤ m → be (a * 256 ^ m + n) p = be n p := by
  intro p
  induction p with
  | zero => intro m a n _; rfl
  | succ p ih =>
   intro m a n hm
   rw [be, be, ih m a n (by omega)]
   congr 2
   have e : a * 256 ^ m = 256 ^ p * (a * 256 ^ (m - p - 1) * 256) := by
    rw [show (256 : Nat) ^ m = 256 ^ p * (256 ^ (m - p - 1) * 256) by rw [← Nat.pow_succ, ← Nat.pow_add]; congr 1; omega]
    rw [Nat.mul_left_comm, Nat.mul_assoc]
   rw [e, Nat.mul_add_div (Nat.pow_pos (by omega)), Nat.add_comm, Nat.add_mul_mod_self_right]
 exact key p p a n (Nat.le_refl _)
theorem be_bev : ∀ {d : List Int}, bytesOk d → be (bev d) d.length = d
 | [], _ => rfl
 | b :: l, h => by
  have hb := h b (by simp)
  have hl : bytesOk l := fun x hx => h x (by simp [hx])
  have h1 := bev_lt hl
  have hp : 0 < 256 ^ l.length := Nat.pow_pos (by omega)
  rw [bev_cons, List.length_cons, be, be_mod, be_bev hl]
  congr 1
  rw [Nat.mul_comm, Nat.mul_add_div hp, Nat.div_eq_of_lt h1, Nat.add_zero, Nat.mod_eq_of_lt (by omega)]
  omega
theorem strict_back {d : List Int} (h : bytesOk d) (hs : (strictR d).2 = 0) : d = numB (strictR d).1 := by
 cases d with
 | nil => rfl
 | cons b l =>
  by_cases h0 : b = 0
  ·simp only [strictR, if_pos h0] at hs; cases hs
  ·have e : (strictR (b :: l)).1 = bev (b :: l) := by simp only [strictR, if_neg h0]
   have hb := h b (by simp)
   have h1 := bev_lt h
   have h2 : 256 ^ l.length ≤ bev (b :: l) := by
    rw [bev_cons]
    have : 1 * 256 ^ l.length ≤ b.toNat * 256 ^ l.length := Nat.mul_le_mul_right _ (by omega)
    omega
   have hne : bev (b :: l) ≠ 0 := by have : 0 < 256 ^ l.length := Nat.pow_pos (by omega); omega
   have h3 := lt_pow_blen (bev (b :: l))
   have h4 := pow_blen_le hne
   have h5 : l.length < blen (bev (b :: l)) := (Nat.pow_lt_pow_iff_right (a := 256) (by omega)).1 (Nat.lt_of_le_of_lt h2 h3)
   have h6 : blen (bev (b :: l)) - 1 < l.length + 1 := (Nat.pow_lt_pow_iff_right (a := 256) (by omega)).1 (Nat.lt_of_le_of_lt h4 h1)
   have h7 : blen (bev (b :: l)) = (b :: l).length := by rw [List.length_cons]; omega
   rw [e, numB, h7, be_bev h]
theorem num_strip {m : Nat} {x : It} (hb : x.byt) (h : (x.num m).2 = 0) : x.strip = numIt (x.num m).1 := by
 have hd : bytesOk x.d := by obtain ⟨l, d, sd, its, ss⟩ := x; exact hb.1
 have h' : (numR m (x.ke false) x.d).2 = 0 := h
 have key : x.ke false = 0 ∧ (numR m (x.ke false) x.d).1 = (strictR x.d).1 ∧ (strictR x.d).2 = 0 := by
  unfold numR at h' ⊢
  by_cases h1 : x.ke false = 0
  ·rw [if_pos h1] at h' ⊢
   by_cases h2 : m < x.d.length
   ·rw [if_pos h2] at h'; cases h'
   ·rw [if_neg h2] at h' ⊢
    by_cases h3 : (strictR x.d).2 = 0
    ·rw [if_pos h3]; exact ⟨h1, rfl, h3⟩
    ·rw [if_neg h3] at h'; cases h'
  ·rw [if_neg h1] at h'; exact absurd h' h1
 obtain ⟨k1, k2, k3⟩ := key
 rw [ke_txt k1, numIt]
 congr 1
 rw [show (x.num m).1 = (strictR x.d).1 from k2]
 exact strict_back hd k3
theorem authOf_strip {x : It} {u : Au} (hb : x.byt) (h : authOf x = some u) : x.strip = u.it ∧ u.ok ∧ bytesOk u.a ∧ u.pa ≤ 255 := by
 rw [authOf] at h
 by_cases h1 : x.getList.2 = 0
 ·rw [if_pos h1] at h
  obtain ⟨e1, e2⟩ := getList_strip h1
  have hby := getList_byt hb
  generalize x.getList.1 = gl at *
  match gl, h with
  | [x0, x1, x2, x3, x4, x5], h =>
   rw [auOf] at h
   obtain ⟨y0, y1, y2, y3, y4, y5, -⟩ := hby
   split at h
   case isFalse => cases h
   rename_i q0
   split at h
   case isFalse => cases h
   rename_i q1
   split at h
   case isFalse => cases h
   rename_i q2
   split at h
   case isFalse => cases h
   rename_i q3
   split at h
   case isFalse => cases h
   rename_i q4
   split at h
   case isFalse => cases h
   rename_i q5
   cases h
   simp only [strips, List.cons.injEq, and_true] at e2
   obtain ⟨z0, z1, z2, z3, z4, z5⟩ := e2
   refine ⟨?_, ⟨num_lt y0, getFixed_len q1, num_lt y2, num_lt y3, num_lt y4, num_lt y5⟩, getFixed_byt y1 q1, q3.2⟩
   rw [e1, Au.it, Au.parts]
   simp only
   rw [← num_strip y0 q0, ← getFixed_strip q1, ← num_strip y2 q2, ← num_strip y3 q3.1, ← num_strip y4 q4, ← num_strip y5 q5, z0, z1, z2, z3, z4, z5]
 ·rw [if_neg h1] at h; cases h
theorem ausOf_strip : ∀ {l : List It} {us : List Au}, byts l → ausOf l = some us → strips l = usIts us ∧ (∀ u ∈ us, u.ok ∧ bytesOk u.a) ∧ wideU us = false
 | [], us, _, h => by cases h; exact ⟨rfl, by simp, rfl⟩
 | x :: l, us, hb, h => by
  rw [ausOf] at h
  cases h1 : authOf x with
  | none => rw [h1] at h; cases h
  | some u =>
   rw [h1] at h
   obtain ⟨us', h2, rfl⟩ := Option.map_eq_some_iff.1 h
   obtain ⟨e1, e2, e3⟩ := ausOf_strip hb.2 h2
   obtain ⟨e4, e5, e6, e7⟩ := authOf_strip hb.1 h1
   refine ⟨by rw [strips, e1, e4]; rfl, fun v hv => ?_, ?_⟩
   ·rcases List.mem_cons.1 hv with rfl | hv
    ·exact ⟨e5, e6⟩
    ·exact e2 v hv
   ·rw [wideU, List.any_cons, ← wideU, e3, Bool.or_false, decide_eq_false_iff_not]; omega
theorem parseA_strip {x : It} {us : List Au} (hb : x.byt) (h : parseAOf x = some us) : x.strip = It.lst (usIts us) ∧ (∀ u ∈ us, u.ok ∧ bytesOk u.a) ∧ wideU us = false := by
 rw [parseAOf] at h
 by_cases h1 : x.getList.2 = 0
 ·rw [if_pos h1] at h
  obtain ⟨e1, e2⟩ := getList_strip h1
  obtain ⟨e3, e4, e5⟩ := ausOf_strip (getList_byt hb) h
  exact ⟨by rw [e1, ← e3, e2], e4, e5⟩
 ·rw [if_neg h1] at h; cases h
end Go.Eng
namespace Go.Eng
open Go Go.Proofs
set_option maxRecDepth 100000
set_option maxHeartbeats 4000000
set_option linter.unusedVariables false
def cutF (l : Bool) (n : Nat) (b : List Int) : Bool × List Int × List Int × Int :=
 if b.length < n then (false, [], [], 70)
 else if l = false ∧ n = 1 ∧ b.getD 0 0 < 128 then (false, [], [], 71)
 else (l, b.take n, b.drop n, 0)
def cutL (l : Bool) (n : Nat) (b : List Int) : Bool × List Int × List Int × Int :=
 if 55 < n then
  if b.length < n - 55 then (false, [], [], 70)
  else if b.getD 0 0 = 0 ∨ bev (b.take (n - 55)) ≤ 55 then (false, [], [], 72)
  else if (b.drop (n - 55)).length < bev (b.take (n - 55)) then (false, [], [], 70)
  else cutF l (bev (b.take (n - 55))) (b.drop (n - 55))
 else cutF l n b
def cutR : List Int → Bool × List Int × List Int × Int
 | [] => (false, [], [], 70)
 | c :: b => if c < 128 then (false, [c], b, 0) else if 192 ≤ c then cutL true (c - 192).toNat b else cutL false (c - 128).toNat b
theorem cmpN_le {n m : Nat} (h : cmpN n m ≤ 0) : n ≤ m := by
 unfold cmpN at h; split at h <;> (try split at h) <;> omega
theorem cmpN_gt {n m : Nat} (h : 0 < cmpN n m) : m < n := by
 unfold cmpN at h; split at h <;> (try split at h) <;> omega
theorem cut_sound : Sound Tryd.prog 66 fun args k => ∃ (d : List Int) (sd : List (List PS)), args = [.s (.sl (d.map b8) sd)] ∧ bytesOk d ∧ d.length ≤ 2 ^ 40 ∧ (∀ z ∈ sd, rlen z = 1) ∧
  ∀ sp sr : List (List PS), (∀ z ∈ sp, rlen z = 1) → (∀ z ∈ sr, rlen z = 1) → k [.s (.v (.bool (cutR d).1)), .s (.sl ((cutR d).2.1.map b8) sp), .s (.sl ((cutR d).2.2.1.map b8) sr), .s (.v (.int .i64 (cutR d).2.2.2))] := by
 refine Sound.of_body tt_ok ent_ok Tryd.func66 rfl ?_
 rintro ar har Γ hΓ args k ⟨d, sd, hargs, hok, hl, hsd, hk⟩
 obtain ⟨D, hD⟩ : ∃ D, D = d.map b8 := ⟨_, rfl⟩
 have hDl : ar.len D = (d.length : Int) := by rw [lenIs har, hD, List.length_map]
 have hDy : ∀ z ∈ D, rlen z = 1 := by rw [hD]; exact b8_all _
 have hDn : D.length = d.length := by rw [hD, List.length_map]
 rw [← hD] at hargs
 have hcat : catS ar D sd = D ++ sd := by rw [har]; exact catS_eq _ _
 conv at hcat => lhs; cbv
 cases d with
 | nil =>
  have hk := hk [] [] (by simp) (by simp)
  have h0 : ar.cb .eql (ar.len D) 0 = true := dEq har (by rw [hDl]; rfl)
  subst hargs
  conv => cbv
  refine onT h0 ?_
  conv => cbv
  exact hk
 | cons c b =>
  have h0 : ar.cb .eql (ar.len D) 0 = false := dNeq har (by rw [hDl, List.length_cons]; omega)
  have rb : D[(0 : Int).toNat]? = some [.c (.v (.int .u8 c))] := by rw [hD]; rfl
  have hb0 : (0 : Int) ≤ 0 := Int.le_refl 0
  have hcr := hok c (by simp)
  have hbok : bytesOk b := fun x hx => hok x (by simp [hx])
  rw [List.length_cons] at hDl hDn hl
  have hdr : D.drop 1 = b.map b8 := by rw [hD]; rfl
  subst hargs
  conv => cbv
  refine onF h0 ?_
  conv => cbv
  refine ⟨_, hb0, rb, rfl, ?_⟩
  conv => cbv
  refine ⟨fun h => ?_, fun h => ?_⟩
  ·have g := cLt har (a := c) (b := 128) h
   have e1 : ar.mid (D ++ sd) 0 1 = [c].map b8 := by rw [midIs har, List.drop_zero, List.take_append_of_le_length (by omega), hD]; rfl
   have e2 : ar.frm (D ++ sd) 1 = D.drop 1 ++ sd := by rw [frmIs har, List.drop_append_of_le_length (by omega)]
   have e3 : ar.frm D 1 = b.map b8 := by rw [frmIs har, hdr]
   have e4 : ∀ z ∈ ar.frm (D ++ sd) 1, rlen z = 1 := by
    rw [e2, hdr]; intro z hz
    rcases List.mem_append.1 hz with hz | hz
    ·exact b8_all _ z hz
    ·exact hsd z hz
   have hk := hk (ar.frm (D ++ sd) 1) sd e4 hsd
   simp only [cutR, if_pos g] at hk
   rw [← e1, ← e3] at hk
   have s1 : (0 : Int) ≤ 1 ∧ (1 : Int) ≤ ((D.length + sd.length : Nat) : Int) := by omega
   have s2 : (0 : Int) ≤ 1 ∧ (1 : Int) ≤ (D.length : Int) ∧ (∀ z ∈ D, rlen z = 1) ∧ ∀ z ∈ sd, rlen z = 1 := ⟨by omega, by omega, hDy, hsd⟩
   conv => cbv
   refine ⟨by rw [har]; kernel_rfl, ?_⟩
   rw [hcat]
   exact ⟨fun _ => s1, fun _ => s2, hk⟩
  ·have g := cNlt har (a := c) (b := 128) h
   have s2 : (0 : Int) ≤ 1 ∧ (1 : Int) ≤ (D.length : Int) ∧ (∀ z ∈ D, rlen z = 1) ∧ ∀ z ∈ sd, rlen z = 1 := ⟨by omega, by omega, hDy, hsd⟩
   obtain ⟨D1, hD1⟩ : ∃ X, ar.frm D 1 = X := ⟨_, rfl⟩
   have hD1b : D1 = b.map b8 := by rw [← hD1, frmIs har, hdr]
   have hD1l : ar.len D1 = (b.length : Int) := by rw [lenIs har, hD1b, List.length_map]
   have hD1n : D1.length = b.length := by rw [hD1b, List.length_map]
   have hD1y : ∀ z ∈ D1, rlen z = 1 := by rw [hD1b]; exact b8_all _
   obtain ⟨X, hX⟩ : ∃ X, D1 ++ sd = X := ⟨_, rfl⟩
   have hcat1 : catS ar D1 sd = X := by rw [har, ← hX]; exact catS_eq _ _
   conv at hcat1 => lhs; cbv
   conv at hD1 => lhs; cbv
   conv => cbv
   refine ⟨fun h => ?_, fun h => ?_⟩
   ·have g2 := cGe har (a := c) (b := 192) h
    obtain ⟨n, hn⟩ : ∃ n, n = (c - 192).toNat := ⟨_, rfl⟩
    obtain ⟨N, hN⟩ : ∃ N, ar.cv .i64 (ar.ib .sub .u8 c 192) = N := ⟨_, rfl⟩
    have hNn : N = (n : Int) := by rw [← hN, iIs har, show intB .sub .u8 c 192 = IntKind.u8.wrap (c - 192) from rfl, u8Wrap, cvI64 har (by omega), hn]; omega
    have hn63 : n ≤ 63 := by omega
    have hk : ∀ sp sr : List (List PS), (∀ z ∈ sp, rlen z = 1) → (∀ z ∈ sr, rlen z = 1) → k [.s (.v (.bool (cutL true n b).1)), .s (.sl ((cutL true n b).2.1.map b8) sp), .s (.sl ((cutL true n b).2.2.1.map b8) sr), .s (.v (.int .i64 (cutL true n b).2.2.2))] := by
     have e : cutR (c :: b) = cutL true n b := by rw [hn]; simp only [cutR, if_neg (Int.not_lt.2 g), if_pos g2]
     rw [e] at hk; exact hk
    conv at hN => lhs; cbv
    have nL : ar.nb true = false := by rw [har]; rfl
    rw [h]
    conv => cbv
    refine ⟨fun _ => s2, ?_⟩
    rw [hD1, hN]
    refine ⟨fun h => ?_, fun h => ?_⟩
    ·have g3 := cGt har (a := N) (b := 55) h
     have hn55 : 55 < n := by omega
     obtain ⟨q, hq⟩ : ∃ q, q = n - 55 := ⟨_, rfl⟩
     obtain ⟨Q, hQ⟩ : ∃ Q, ar.ib .sub .i64 N 55 = Q := ⟨_, rfl⟩
     have hQq : Q = (q : Int) := by rw [← hQ, iSub har (by omega)]; omega
     have hq8 : 1 ≤ q ∧ q ≤ 8 := by omega
     conv at hQ => lhs; cbv
     simp only [cutL, if_pos hn55, ← hq] at hk
     conv => cbv
     rw [hQ]
     refine ⟨fun h => ?_, fun h => ?_⟩
     ·have g4 := cLt har (a := ar.len D1) (b := Q) h
      have hk := hk [] [] (by simp) (by simp)
      rw [if_pos (by omega)] at hk
      conv => cbv
      exact hk
     ·have g4 := cNlt har (a := ar.len D1) (b := Q) h
      have hqb : q ≤ b.length := by omega
      simp only [if_neg (Nat.not_lt.2 hqb)] at hk
      have hnQ : ar.nat Q = q := natOf har hQq
      obtain ⟨T, hT⟩ : ∃ T, ar.mid X 0 (ar.nat Q) = T := ⟨_, rfl⟩
      have hTt : T = (b.take q).map b8 := by rw [← hT, hnQ, midIs har, ← hX, List.drop_zero, List.take_append_of_le_length (by omega), hD1b, List.map_take]
      obtain ⟨v, hv⟩ : ∃ v, v = bev (b.take q) := ⟨_, rfl⟩
      have hvlt : v < 2 ^ 64 := by
       have h1 := bev_lt (l := b.take q) fun x hx => hbok x (List.mem_of_mem_take hx)
       rw [List.length_take, Nat.min_eq_left hqb, ← hv] at h1
       refine Nat.lt_of_lt_of_le h1 (Nat.le_trans (Nat.pow_le_pow_right (by omega) hq8.2) (by decide))
      rw [← hv] at hk
      obtain ⟨V, hV⟩ : ∃ V : Int, V = (v : Int) := ⟨_, rfl⟩
      have hw : w4 v = [.int .u64 V, .int .u64 0, .int .u64 0, .int .u64 0] := by
       have := w4_v4 (a := v) (b := 0) (c := 0) (d := 0) (by omega) (by omega) (by omega) (by omega)
       rw [hV]
       simpa [v4] using this
      have callG : ∀ (Γ : Ctx) (d' : Nat) (s : List (List PS)) (k : List PR → Prop) (R : Prop), Γ = ctx Tryd.prog d' → k [.a [.r 4 [.int .u64 V, .int .u64 0, .int .u64 0, .int .u64 0]], .s (.v (.int .i64 0))] → Γ.g 81 [.s (.sl T s)] k ∨ R := fun Γ d' s k R hΓ hk => call_by hΓ u256Get_sound ⟨b.take q, s, by rw [hTt], fun x hx => hbok x (List.mem_of_mem_take hx), by rw [List.length_take]; omega, by unfold pw; rw [← hv, hw]; exact hk⟩
      have sQ : (0 : Int) ≤ Q ∧ Q ≤ ((D1.length + sd.length : Nat) : Int) := by omega
      conv at hT => lhs; cbv
      conv => cbv
      rw [hcat1, hT]
      refine ⟨fun _ => sQ, ?_⟩
      refine callG _ _ _ _ _ hΓ ?_
      obtain ⟨b0, bt, hbb⟩ : ∃ b0 bt, b = b0 :: bt := by
       cases b with
       | nil => exact absurd hqb (by rw [List.length_nil]; omega)
       | cons b0 bt => exact ⟨b0, bt, rfl⟩
      have rb1 : D1[(0 : Int).toNat]? = some [.c (.v (.int .u8 b0))] := by rw [hD1b, hbb]; rfl
      conv => cbv
      refine ⟨by rw [har]; kernel_rfl, _, hb0, rb1, rfl, ?_⟩
      conv => cbv
      have hvM : v < M256 := Nat.lt_trans hvlt (by decide)
      obtain ⟨F, hF⟩ : ∃ F, F = w4 55 := ⟨_, rfl⟩
      obtain ⟨Z, hZ⟩ : ∃ Z : Int, Z = cmpN v 55 := ⟨_, rfl⟩
      have callF : ∀ (Γ : Ctx) (d' : Nat) (k : List PR → Prop), Γ = ctx Tryd.prog d' → k [.a [.r 4 F]] → Γ.g 37 [.s (.v (.int .u64 55))] k := fun Γ d' k hΓ hk => call_by' hΓ u256From_sound ⟨55, rfl, by omega, by unfold pw; rw [← hF]; exact hk⟩
      have callC : ∀ (Γ : Ctx) (d' : Nat) (k : List PR → Prop), Γ = ctx Tryd.prog d' → k [.s (.v (.int .i64 Z))] → Γ.g 36 [.a [.r 4 [.int .u64 V, .int .u64 0, .int .u64 0, .int .u64 0]], .a [.r 4 F]] k := fun Γ d' k hΓ hk => call_by' hΓ u256Cmp_sound ⟨v, 55, by unfold pw; rw [hw, hF], hvM, by decide, by rw [← hZ]; exact hk⟩
      have hgb : b.getD 0 0 = b0 := by rw [hbb]; rfl
      refine ⟨fun h => ?_, fun h => ?_⟩
      ·have g5 := cNeq har (a := b0) (b := 0) h
       conv => cbv
       refine callF _ _ _ hΓ ?_
       conv => cbv
       refine callC _ _ _ hΓ ?_
       conv => cbv
       refine ⟨fun h => ?_, fun h => ?_⟩
       ·have g6 := cLe har (a := Z) (b := 0) h
        have hv55 : v ≤ 55 := cmpN_le (hZ ▸ g6)
        have hk := hk [] [] (by simp) (by simp)
        rw [if_pos (.inr hv55)] at hk
        conv => cbv
        exact hk
       ·have g6 := cNle har (a := Z) (b := 0) h
        have hv55 : 55 < v := cmpN_gt (hZ ▸ g6)
        rw [if_neg (show ¬ (b.getD 0 0 = 0 ∨ v ≤ 55) by rw [hgb]; omega)] at hk
        obtain ⟨b2, hb2⟩ : ∃ b2, b2 = b.drop q := ⟨_, rfl⟩
        rw [← hb2] at hk
        obtain ⟨D2, hD2⟩ : ∃ X, ar.frm D1 (ar.nat Q) = X := ⟨_, rfl⟩
        have hb2l : b2.length = b.length - q := by rw [hb2, List.length_drop]
        have hb2ok : bytesOk b2 := fun x hx => hbok x (by rw [hb2] at hx; exact List.mem_of_mem_drop hx)
        have hD2b : D2 = b2.map b8 := by rw [← hD2, hnQ, frmIs har, hD1b, hb2, List.map_drop]
        have hD2l : ar.len D2 = (b2.length : Int) := by rw [lenIs har, hD2b, List.length_map]
        have hD2n : D2.length = b2.length := by rw [hD2b, List.length_map]
        have hD2y : ∀ z ∈ D2, rlen z = 1 := by rw [hD2b]; exact b8_all _
        obtain ⟨Y, hY⟩ : ∃ X, D2 ++ sd = X := ⟨_, rfl⟩
        have hcat2 : catS ar D2 sd = Y := by rw [har, ← hY]; exact catS_eq _ _
        have sQ2 : (0 : Int) ≤ Q ∧ Q ≤ (D1.length : Int) ∧ (∀ z ∈ D1, rlen z = 1) ∧ ∀ z ∈ sd, rlen z = 1 := ⟨by omega, by omega, hD1y, hsd⟩
        obtain ⟨G, hG⟩ : ∃ F, F = w4 b2.length := ⟨_, rfl⟩
        obtain ⟨Z2, hZ2⟩ : ∃ Z : Int, Z = cmpN v b2.length := ⟨_, rfl⟩
        have hcv : ar.cv .u64 (ar.len D2) = (b2.length : Int) := by rw [hD2l, cvU64 har (by omega)]
        have callF2 : ∀ (Γ : Ctx) (d' : Nat) (k : List PR → Prop), Γ = ctx Tryd.prog d' → k [.a [.r 4 G]] → Γ.g 37 [.s (.v (.int .u64 (ar.cv .u64 (ar.len D2))))] k := fun Γ d' k hΓ hk => call_by' hΓ u256From_sound ⟨b2.length, by rw [hcv], by omega, by unfold pw; rw [← hG]; exact hk⟩
        have callC2 : ∀ (Γ : Ctx) (d' : Nat) (k : List PR → Prop), Γ = ctx Tryd.prog d' → k [.s (.v (.int .i64 Z2))] → Γ.g 36 [.a [.r 4 [.int .u64 V, .int .u64 0, .int .u64 0, .int .u64 0]], .a [.r 4 G]] k := fun Γ d' k hΓ hk => call_by' hΓ u256Cmp_sound ⟨v, b2.length, by unfold pw; rw [hw, hG], hvM, Nat.lt_of_le_of_lt (show b2.length ≤ 2 ^ 40 by omega) (by decide), by rw [← hZ2]; exact hk⟩
        conv at hD2 => lhs; cbv
        conv at hcat2 => lhs; cbv
        conv => cbv
        refine ⟨fun _ => sQ2, ?_⟩
        rw [hD2]
        refine ⟨by rw [har]; kernel_rfl, ?_⟩
        refine callF2 _ _ _ hΓ ?_
        conv => cbv
        refine callC2 _ _ _ hΓ ?_
        conv => cbv
        refine ⟨fun h => ?_, fun h => ?_⟩
        ·have g7 := cGt har (a := Z2) (b := 0) h
         have hvb : b2.length < v := cmpN_gt (hZ2 ▸ g7)
         have hk := hk [] [] (by simp) (by simp)
         rw [if_pos hvb] at hk
         conv => cbv
         exact hk
        ·have g7 := cNgt har (a := Z2) (b := 0) h
         have hvb : v ≤ b2.length := cmpN_le (hZ2 ▸ g7)
         rw [if_neg (Nat.not_lt.2 hvb)] at hk
         obtain ⟨P, hP⟩ : ∃ P, ar.cv .i64 V = P := ⟨_, rfl⟩
         have hPv : P = (v : Int) := by rw [← hP, cvI64 har (by omega), hV]
         conv at hP => lhs; cbv
         conv => cbv
         rw [hP]
         have s12 : (0 : Int) ≤ P ∧ (P ≤ ((D2.length + sd.length : Nat) : Int) ∨ b2.length < v) := by omega
         have hnat2 : ar.nat P = v := natOf har hPv
         refine ⟨fun h => ?_, fun h => ?_⟩
         ·have g := cLt har (a := ar.len D2) (b := P) h
          have hk := hk [] [] (by simp) (by simp)
          simp only [cutF, if_pos (show b2.length < v by omega)] at hk
          conv => cbv
          exact hk
         ·have g := cNlt har (a := ar.len D2) (b := P) h
          have hle : v ≤ b2.length := by omega
          have s12 : (0 : Int) ≤ P ∧ P ≤ ((D2.length + sd.length : Nat) : Int) := by omega
          have s22 : (0 : Int) ≤ P ∧ P ≤ (D2.length : Int) ∧ (∀ z ∈ D2, rlen z = 1) ∧ ∀ z ∈ sd, rlen z = 1 := ⟨by omega, by omega, hD2y, hsd⟩
          rw [show cutF true v b2 = if true = false ∧ v = 1 ∧ b2.getD 0 0 < 128 then (false, [], [], 71) else (true, b2.take v, b2.drop v, 0) from by unfold cutF; rw [if_neg (Nat.not_lt.2 hle)]] at hk
          have e1 : ar.mid Y 0 (ar.nat P) = (b2.take v).map b8 := by rw [hnat2, midIs har, ← hY, List.drop_zero, List.take_append_of_le_length (by omega), hD2b, List.map_take]
          have e3 : ar.frm D2 (ar.nat P) = (b2.drop v).map b8 := by rw [hnat2, frmIs har, hD2b, List.map_drop]
          have e4 : ∀ z ∈ ar.frm Y (ar.nat P), rlen z = 1 := by
           rw [hnat2, frmIs har, ← hY, List.drop_append_of_le_length (by omega)]
           intro z hz
           rcases List.mem_append.1 hz with hz | hz
           ·exact hD2y z (List.mem_of_mem_drop hz)
           ·exact hsd z hz
          have hkF : ¬ (true = false ∧ v = 1 ∧ b2.getD 0 0 < 128) → k [.s (.v (.bool true)), .s (.sl (ar.mid Y 0 (ar.nat P)) (ar.frm Y (ar.nat P))), .s (.sl (ar.frm D2 (ar.nat P)) sd), .s (.v (.int .i64 0))] := fun hc => by
           have hk := hk (ar.frm Y (ar.nat P)) sd e4 hsd
           rw [if_neg hc] at hk
           rw [← e1, ← e3] at hk
           exact hk
          have hkE : (true = false ∧ v = 1 ∧ b2.getD 0 0 < 128) → k [.s (.v (.bool false)), .s (.sl [] []), .s (.sl [] []), .s (.v (.int .i64 71))] := fun hc => by
           have hk := hk [] [] (by simp) (by simp)
           rw [if_pos hc] at hk
           exact hk
          clear e1 e3 e4 hk
          conv => cbv
          refine onF nL ?_
          conv => cbv
          refine ⟨by rw [har]; kernel_rfl, ?_⟩
          rw [hcat2]
          exact ⟨fun _ => s12, fun _ => s22, hkF (by simp)⟩
      ·have g5 := cEq har (a := b0) (b := 0) h
       have hk := hk [] [] (by simp) (by simp)
       rw [if_pos (.inl (by rw [hgb]; exact g5))] at hk
       conv => cbv
       exact hk
    ·have g3 := cNgt har (a := N) (b := 55) h
     simp only [cutL, if_neg (show ¬ 55 < n by omega)] at hk
     conv => cbv
     try rw [hN]
     have s11 : (0 : Int) ≤ N ∧ (N ≤ ((D1.length + sd.length : Nat) : Int) ∨ b.length < n) := by omega
     have hnat1 : ar.nat N = n := natOf har hNn
     refine ⟨fun h => ?_, fun h => ?_⟩
     ·have g := cLt har (a := ar.len D1) (b := N) h
      have hk := hk [] [] (by simp) (by simp)
      simp only [cutF, if_pos (show b.length < n by omega)] at hk
      conv => cbv
      exact hk
     ·have g := cNlt har (a := ar.len D1) (b := N) h
      have hle : n ≤ b.length := by omega
      have s11 : (0 : Int) ≤ N ∧ N ≤ ((D1.length + sd.length : Nat) : Int) := by omega
      have s21 : (0 : Int) ≤ N ∧ N ≤ (D1.length : Int) ∧ (∀ z ∈ D1, rlen z = 1) ∧ ∀ z ∈ sd, rlen z = 1 := ⟨by omega, by omega, hD1y, hsd⟩
      rw [show cutF true n b = if true = false ∧ n = 1 ∧ b.getD 0 0 < 128 then (false, [], [], 71) else (true, b.take n, b.drop n, 0) from by unfold cutF; rw [if_neg (Nat.not_lt.2 hle)]] at hk
      have e1 : ar.mid X 0 (ar.nat N) = (b.take n).map b8 := by rw [hnat1, midIs har, ← hX, List.drop_zero, List.take_append_of_le_length (by omega), hD1b, List.map_take]
      have e3 : ar.frm D1 (ar.nat N) = (b.drop n).map b8 := by rw [hnat1, frmIs har, hD1b, List.map_drop]
      have e4 : ∀ z ∈ ar.frm X (ar.nat N), rlen z = 1 := by
       rw [hnat1, frmIs har, ← hX, List.drop_append_of_le_length (by omega)]
       intro z hz
       rcases List.mem_append.1 hz with hz | hz
       ·exact hD1y z (List.mem_of_mem_drop hz)
       ·exact hsd z hz
      have hkF : ¬ (true = false ∧ n = 1 ∧ b.getD 0 0 < 128) → k [.s (.v (.bool true)), .s (.sl (ar.mid X 0 (ar.nat N)) (ar.frm X (ar.nat N))), .s (.sl (ar.frm D1 (ar.nat N)) sd), .s (.v (.int .i64 0))] := fun hc => by
       have hk := hk (ar.frm X (ar.nat N)) sd e4 hsd
       rw [if_neg hc] at hk
       rw [← e1, ← e3] at hk
       exact hk
      have hkE : (true = false ∧ n = 1 ∧ b.getD 0 0 < 128) → k [.s (.v (.bool false)), .s (.sl [] []), .s (.sl [] []), .s (.v (.int .i64 71))] := fun hc => by
       have hk := hk [] [] (by simp) (by simp)
       rw [if_pos hc] at hk
       exact hk
      clear e1 e3 e4 hk
      conv => cbv
      refine onF nL ?_
      conv => cbv
      refine ⟨by rw [har]; kernel_rfl, ?_⟩
      rw [hcat1]
      exact ⟨fun _ => s11, fun _ => s21, hkF (by simp)⟩
   ·have g2 := cNge har (a := c) (b := 192) h
    obtain ⟨n, hn⟩ : ∃ n, n = (c - 128).toNat := ⟨_, rfl⟩
    obtain ⟨N, hN⟩ : ∃ N, ar.cv .i64 (ar.ib .sub .u8 c 128) = N := ⟨_, rfl⟩
    have hNn : N = (n : Int) := by rw [← hN, iIs har, show intB .sub .u8 c 128 = IntKind.u8.wrap (c - 128) from rfl, u8Wrap, cvI64 har (by omega), hn]; omega
    have hn63 : n ≤ 63 := by omega
    have hk : ∀ sp sr : List (List PS), (∀ z ∈ sp, rlen z = 1) → (∀ z ∈ sr, rlen z = 1) → k [.s (.v (.bool (cutL false n b).1)), .s (.sl ((cutL false n b).2.1.map b8) sp), .s (.sl ((cutL false n b).2.2.1.map b8) sr), .s (.v (.int .i64 (cutL false n b).2.2.2))] := by
     have e : cutR (c :: b) = cutL false n b := by rw [hn]; simp only [cutR, if_neg (Int.not_lt.2 g), if_neg (Int.not_le.2 g2)]
     rw [e] at hk; exact hk
    conv at hN => lhs; cbv
    have nL : ar.nb false = true := by rw [har]; rfl
    rw [h]
    conv => cbv
    refine ⟨fun _ => s2, ?_⟩
    rw [hD1, hN]
    refine ⟨fun h => ?_, fun h => ?_⟩
    ·have g3 := cGt har (a := N) (b := 55) h
     have hn55 : 55 < n := by omega
     obtain ⟨q, hq⟩ : ∃ q, q = n - 55 := ⟨_, rfl⟩
     obtain ⟨Q, hQ⟩ : ∃ Q, ar.ib .sub .i64 N 55 = Q := ⟨_, rfl⟩
     have hQq : Q = (q : Int) := by rw [← hQ, iSub har (by omega)]; omega
     have hq8 : 1 ≤ q ∧ q ≤ 8 := by omega
     conv at hQ => lhs; cbv
     simp only [cutL, if_pos hn55, ← hq] at hk
     conv => cbv
     rw [hQ]
     refine ⟨fun h => ?_, fun h => ?_⟩
     ·have g4 := cLt har (a := ar.len D1) (b := Q) h
      have hk := hk [] [] (by simp) (by simp)
      rw [if_pos (by omega)] at hk
      conv => cbv
      exact hk
     ·have g4 := cNlt har (a := ar.len D1) (b := Q) h
      have hqb : q ≤ b.length := by omega
      simp only [if_neg (Nat.not_lt.2 hqb)] at hk
      have hnQ : ar.nat Q = q := natOf har hQq
      obtain ⟨T, hT⟩ : ∃ T, ar.mid X 0 (ar.nat Q) = T := ⟨_, rfl⟩
      have hTt : T = (b.take q).map b8 := by rw [← hT, hnQ, midIs har, ← hX, List.drop_zero, List.take_append_of_le_length (by omega), hD1b, List.map_take]
      obtain ⟨v, hv⟩ : ∃ v, v = bev (b.take q) := ⟨_, rfl⟩
      have hvlt : v < 2 ^ 64 := by
       have h1 := bev_lt (l := b.take q) fun x hx => hbok x (List.mem_of_mem_take hx)
       rw [List.length_take, Nat.min_eq_left hqb, ← hv] at h1
       refine Nat.lt_of_lt_of_le h1 (Nat.le_trans (Nat.pow_le_pow_right (by omega) hq8.2) (by decide))
      rw [← hv] at hk
      obtain ⟨V, hV⟩ : ∃ V : Int, V = (v : Int) := ⟨_, rfl⟩
      have hw : w4 v = [.int .u64 V, .int .u64 0, .int .u64 0, .int .u64 0] := by
       have := w4_v4 (a := v) (b := 0) (c := 0) (d := 0) (by omega) (by omega) (by omega) (by omega)
       rw [hV]
       simpa [v4] using this
      have callG : ∀ (Γ : Ctx) (d' : Nat) (s : List (List PS)) (k : List PR → Prop) (R : Prop), Γ = ctx Tryd.prog d' → k [.a [.r 4 [.int .u64 V, .int .u64 0, .int .u64 0, .int .u64 0]], .s (.v (.int .i64 0))] → Γ.g 81 [.s (.sl T s)] k ∨ R := fun Γ d' s k R hΓ hk => call_by hΓ u256Get_sound ⟨b.take q, s, by rw [hTt], fun x hx => hbok x (List.mem_of_mem_take hx), by rw [List.length_take]; omega, by unfold pw; rw [← hv, hw]; exact hk⟩
      have sQ : (0 : Int) ≤ Q ∧ Q ≤ ((D1.length + sd.length : Nat) : Int) := by omega
      conv at hT => lhs; cbv
      conv => cbv
      rw [hcat1, hT]
      refine ⟨fun _ => sQ, ?_⟩
      refine callG _ _ _ _ _ hΓ ?_
      obtain ⟨b0, bt, hbb⟩ : ∃ b0 bt, b = b0 :: bt := by
       cases b with
       | nil => exact absurd hqb (by rw [List.length_nil]; omega)
       | cons b0 bt => exact ⟨b0, bt, rfl⟩
      have rb1 : D1[(0 : Int).toNat]? = some [.c (.v (.int .u8 b0))] := by rw [hD1b, hbb]; rfl
      conv => cbv
      refine ⟨by rw [har]; kernel_rfl, _, hb0, rb1, rfl, ?_⟩
      conv => cbv
      have hvM : v < M256 := Nat.lt_trans hvlt (by decide)
      obtain ⟨F, hF⟩ : ∃ F, F = w4 55 := ⟨_, rfl⟩
      obtain ⟨Z, hZ⟩ : ∃ Z : Int, Z = cmpN v 55 := ⟨_, rfl⟩
      have callF : ∀ (Γ : Ctx) (d' : Nat) (k : List PR → Prop), Γ = ctx Tryd.prog d' → k [.a [.r 4 F]] → Γ.g 37 [.s (.v (.int .u64 55))] k := fun Γ d' k hΓ hk => call_by' hΓ u256From_sound ⟨55, rfl, by omega, by unfold pw; rw [← hF]; exact hk⟩
      have callC : ∀ (Γ : Ctx) (d' : Nat) (k : List PR → Prop), Γ = ctx Tryd.prog d' → k [.s (.v (.int .i64 Z))] → Γ.g 36 [.a [.r 4 [.int .u64 V, .int .u64 0, .int .u64 0, .int .u64 0]], .a [.r 4 F]] k := fun Γ d' k hΓ hk => call_by' hΓ u256Cmp_sound ⟨v, 55, by unfold pw; rw [hw, hF], hvM, by decide, by rw [← hZ]; exact hk⟩
      have hgb : b.getD 0 0 = b0 := by rw [hbb]; rfl
      refine ⟨fun h => ?_, fun h => ?_⟩
      ·have g5 := cNeq har (a := b0) (b := 0) h
       conv => cbv
       refine callF _ _ _ hΓ ?_
       conv => cbv
       refine callC _ _ _ hΓ ?_
       conv => cbv
       refine ⟨fun h => ?_, fun h => ?_⟩
       ·have g6 := cLe har (a := Z) (b := 0) h
        have hv55 : v ≤ 55 := cmpN_le (hZ ▸ g6)
        have hk := hk [] [] (by simp) (by simp)
        rw [if_pos (.inr hv55)] at hk
        conv => cbv
        exact hk
       ·have g6 := cNle har (a := Z) (b := 0) h
        have hv55 : 55 < v := cmpN_gt (hZ ▸ g6)
        rw [if_neg (show ¬ (b.getD 0 0 = 0 ∨ v ≤ 55) by rw [hgb]; omega)] at hk
        obtain ⟨b2, hb2⟩ : ∃ b2, b2 = b.drop q := ⟨_, rfl⟩
        rw [← hb2] at hk
        obtain ⟨D2, hD2⟩ : ∃ X, ar.frm D1 (ar.nat Q) = X := ⟨_, rfl⟩
        have hb2l : b2.length = b.length - q := by rw [hb2, List.length_drop]
        have hb2ok : bytesOk b2 := fun x hx => hbok x (by rw [hb2] at hx; exact List.mem_of_mem_drop hx)
        have hD2b : D2 = b2.map b8 := by rw [← hD2, hnQ, frmIs har, hD1b, hb2, List.map_drop]
        have hD2l : ar.len D2 = (b2.length : Int) := by rw [lenIs har, hD2b, List.length_map]
        have hD2n : D2.length = b2.length := by rw [hD2b, List.length_map]
        have hD2y : ∀ z ∈ D2, rlen z = 1 := by rw [hD2b]; exact b8_all _
        obtain ⟨Y, hY⟩ : ∃ X, D2 ++ sd = X := ⟨_, rfl⟩
        have hcat2 : catS ar D2 sd = Y := by rw [har, ← hY]; exact catS_eq _ _
        have sQ2 : (0 : Int) ≤ Q ∧ Q ≤ (D1.length : Int) ∧ (∀ z ∈ D1, rlen z = 1) ∧ ∀ z ∈ sd, rlen z = 1 := ⟨by omega, by omega, hD1y, hsd⟩
        obtain ⟨G, hG⟩ : ∃ F, F = w4 b2.length := ⟨_, rfl⟩
        obtain ⟨Z2, hZ2⟩ : ∃ Z : Int, Z = cmpN v b2.length := ⟨_, rfl⟩
        have hcv : ar.cv .u64 (ar.len D2) = (b2.length : Int) := by rw [hD2l, cvU64 har (by omega)]
        have callF2 : ∀ (Γ : Ctx) (d' : Nat) (k : List PR → Prop), Γ = ctx Tryd.prog d' → k [.a [.r 4 G]] → Γ.g 37 [.s (.v (.int .u64 (ar.cv .u64 (ar.len D2))))] k := fun Γ d' k hΓ hk => call_by' hΓ u256From_sound ⟨b2.length, by rw [hcv], by omega, by unfold pw; rw [← hG]; exact hk⟩
        have callC2 : ∀ (Γ : Ctx) (d' : Nat) (k : List PR → Prop), Γ = ctx Tryd.prog d' → k [.s (.v (.int .i64 Z2))] → Γ.g 36 [.a [.r 4 [.int .u64 V, .int .u64 0, .int .u64 0, .int .u64 0]], .a [.r 4 G]] k := fun Γ d' k hΓ hk => call_by' hΓ u256Cmp_sound ⟨v, b2.length, by unfold pw; rw [hw, hG], hvM, Nat.lt_of_le_of_lt (show b2.length ≤ 2 ^ 40 by omega) (by decide), by rw [← hZ2]; exact hk⟩
        conv at hD2 => lhs; cbv
        conv at hcat2 => lhs; cbv
        conv => cbv
        refine ⟨fun _ => sQ2, ?_⟩
        rw [hD2]
        refine ⟨by rw [har]; kernel_rfl, ?_⟩
        refine callF2 _ _ _ hΓ ?_
        conv => cbv
        refine callC2 _ _ _ hΓ ?_
        conv => cbv
        refine ⟨fun h => ?_, fun h => ?_⟩
        ·have g7 := cGt har (a := Z2) (b := 0) h
         have hvb : b2.length < v := cmpN_gt (hZ2 ▸ g7)
         have hk := hk [] [] (by simp) (by simp)
         rw [if_pos hvb] at hk
         conv => cbv
         exact hk
        ·have g7 := cNgt har (a := Z2) (b := 0) h
         have hvb : v ≤ b2.length := cmpN_le (hZ2 ▸ g7)
         rw [if_neg (Nat.not_lt.2 hvb)] at hk
         obtain ⟨P, hP⟩ : ∃ P, ar.cv .i64 V = P := ⟨_, rfl⟩
         have hPv : P = (v : Int) := by rw [← hP, cvI64 har (by omega), hV]
         conv at hP => lhs; cbv
         conv => cbv
         rw [hP]
         have s12 : (0 : Int) ≤ P ∧ (P ≤ ((D2.length + sd.length : Nat) : Int) ∨ b2.length < v) := by omega
         have hnat2 : ar.nat P = v := natOf har hPv
         refine ⟨fun h => ?_, fun h => ?_⟩
         ·have g := cLt har (a := ar.len D2) (b := P) h
          have hk := hk [] [] (by simp) (by simp)
          simp only [cutF, if_pos (show b2.length < v by omega)] at hk
          conv => cbv
          exact hk
         ·have g := cNlt har (a := ar.len D2) (b := P) h
          have hle : v ≤ b2.length := by omega
          have s12 : (0 : Int) ≤ P ∧ P ≤ ((D2.length + sd.length : Nat) : Int) := by omega
          have s22 : (0 : Int) ≤ P ∧ P ≤ (D2.length : Int) ∧ (∀ z ∈ D2, rlen z = 1) ∧ ∀ z ∈ sd, rlen z = 1 := ⟨by omega, by omega, hD2y, hsd⟩
          rw [show cutF false v b2 = if false = false ∧ v = 1 ∧ b2.getD 0 0 < 128 then (false, [], [], 71) else (false, b2.take v, b2.drop v, 0) from by unfold cutF; rw [if_neg (Nat.not_lt.2 hle)]] at hk
          have e1 : ar.mid Y 0 (ar.nat P) = (b2.take v).map b8 := by rw [hnat2, midIs har, ← hY, List.drop_zero, List.take_append_of_le_length (by omega), hD2b, List.map_take]
          have e3 : ar.frm D2 (ar.nat P) = (b2.drop v).map b8 := by rw [hnat2, frmIs har, hD2b, List.map_drop]
          have e4 : ∀ z ∈ ar.frm Y (ar.nat P), rlen z = 1 := by
           rw [hnat2, frmIs har, ← hY, List.drop_append_of_le_length (by omega)]
           intro z hz
           rcases List.mem_append.1 hz with hz | hz
           ·exact hD2y z (List.mem_of_mem_drop hz)
           ·exact hsd z hz
          have hkF : ¬ (false = false ∧ v = 1 ∧ b2.getD 0 0 < 128) → k [.s (.v (.bool false)), .s (.sl (ar.mid Y 0 (ar.nat P)) (ar.frm Y (ar.nat P))), .s (.sl (ar.frm D2 (ar.nat P)) sd), .s (.v (.int .i64 0))] := fun hc => by
           have hk := hk (ar.frm Y (ar.nat P)) sd e4 hsd
           rw [if_neg hc] at hk
           rw [← e1, ← e3] at hk
           exact hk
          have hkE : (false = false ∧ v = 1 ∧ b2.getD 0 0 < 128) → k [.s (.v (.bool false)), .s (.sl [] []), .s (.sl [] []), .s (.v (.int .i64 71))] := fun hc => by
           have hk := hk [] [] (by simp) (by simp)
           rw [if_pos hc] at hk
           exact hk
          clear e1 e3 e4 hk
          conv => cbv
          refine onT nL ?_
          conv => cbv
          refine ⟨fun h => ?_, fun h => ?_⟩
          ·have g5 := cEq har (a := P) (b := 1) h
           obtain ⟨b1, bt1, hbb1⟩ : ∃ b0 bt, b2 = b0 :: bt := by
            cases hB : b2 with
            | nil => rw [hB, List.length_nil] at hle; omega
            | cons b0 bt => exact ⟨b0, bt, rfl⟩
           have rb2 : D2[(0 : Int).toNat]? = some [.c (.v (.int .u8 b1))] := by rw [hD2b, hbb1]; rfl
           have hg : b2.getD 0 0 = b1 := by rw [hbb1]; rfl
           conv => cbv
           refine ⟨_, hb0, rb2, rfl, ?_⟩
           conv => cbv
           refine ⟨fun h => ?_, fun h => ?_⟩
           ·have g6 := cLt har (a := b1) (b := 128) h
            have hkE := hkE ⟨rfl, by omega, by rw [hg]; exact g6⟩
            conv => cbv
            exact hkE
           ·have g6 := cNlt har (a := b1) (b := 128) h
            conv => cbv
            refine ⟨by rw [har]; kernel_rfl, ?_⟩
            rw [hcat2]
            exact ⟨fun _ => s12, fun _ => s22, hkF (fun hc => by rw [hg] at hc; omega)⟩
          ·have g5 := cNeq har (a := P) (b := 1) h
           conv => cbv
           refine ⟨by rw [har]; kernel_rfl, ?_⟩
           rw [hcat2]
           exact ⟨fun _ => s12, fun _ => s22, hkF (fun hc => by omega)⟩
      ·have g5 := cEq har (a := b0) (b := 0) h
       have hk := hk [] [] (by simp) (by simp)
       rw [if_pos (.inl (by rw [hgb]; exact g5))] at hk
       conv => cbv
       exact hk
    ·have g3 := cNgt har (a := N) (b := 55) h
     simp only [cutL, if_neg (show ¬ 55 < n by omega)] at hk
     conv => cbv
     try rw [hN]
     have s11 : (0 : Int) ≤ N ∧ (N ≤ ((D1.length + sd.length : Nat) : Int) ∨ b.length < n) := by omega
     have hnat1 : ar.nat N = n := natOf har hNn
     refine ⟨fun h => ?_, fun h => ?_⟩
     ·have g := cLt har (a := ar.len D1) (b := N) h
      have hk := hk [] [] (by simp) (by simp)
      simp only [cutF, if_pos (show b.length < n by omega)] at hk
      conv => cbv
      exact hk
     ·have g := cNlt har (a := ar.len D1) (b := N) h
      have hle : n ≤ b.length := by omega
      have s11 : (0 : Int) ≤ N ∧ N ≤ ((D1.length + sd.length : Nat) : Int) := by omega
      have s21 : (0 : Int) ≤ N ∧ N ≤ (D1.length : Int) ∧ (∀ z ∈ D1, rlen z = 1) ∧ ∀ z ∈ sd, rlen z = 1 := ⟨by omega, by omega, hD1y, hsd⟩
      rw [show cutF false n b = if false = false ∧ n = 1 ∧ b.getD 0 0 < 128 then (false, [], [], 71) else (false, b.take n, b.drop n, 0) from by unfold cutF; rw [if_neg (Nat.not_lt.2 hle)]] at hk
      have e1 : ar.mid X 0 (ar.nat N) = (b.take n).map b8 := by rw [hnat1, midIs har, ← hX, List.drop_zero, List.take_append_of_le_length (by omega), hD1b, List.map_take]
      have e3 : ar.frm D1 (ar.nat N) = (b.drop n).map b8 := by rw [hnat1, frmIs har, hD1b, List.map_drop]
      have e4 : ∀ z ∈ ar.frm X (ar.nat N), rlen z = 1 := by
       rw [hnat1, frmIs har, ← hX, List.drop_append_of_le_length (by omega)]
       intro z hz
       rcases List.mem_append.1 hz with hz | hz
       ·exact hD1y z (List.mem_of_mem_drop hz)
       ·exact hsd z hz
      have hkF : ¬ (false = false ∧ n = 1 ∧ b.getD 0 0 < 128) → k [.s (.v (.bool false)), .s (.sl (ar.mid X 0 (ar.nat N)) (ar.frm X (ar.nat N))), .s (.sl (ar.frm D1 (ar.nat N)) sd), .s (.v (.int .i64 0))] := fun hc => by
       have hk := hk (ar.frm X (ar.nat N)) sd e4 hsd
       rw [if_neg hc] at hk
       rw [← e1, ← e3] at hk
       exact hk
      have hkE : (false = false ∧ n = 1 ∧ b.getD 0 0 < 128) → k [.s (.v (.bool false)), .s (.sl [] []), .s (.sl [] []), .s (.v (.int .i64 71))] := fun hc => by
       have hk := hk [] [] (by simp) (by simp)
       rw [if_pos hc] at hk
       exact hk
      clear e1 e3 e4 hk
      conv => cbv
      refine onT nL ?_
      conv => cbv
      refine ⟨fun h => ?_, fun h => ?_⟩
      ·have g5 := cEq har (a := N) (b := 1) h
       obtain ⟨b1, bt1, hbb1⟩ : ∃ b0 bt, b = b0 :: bt := by
        cases hB : b with
        | nil => rw [hB, List.length_nil] at hle; omega
        | cons b0 bt => exact ⟨b0, bt, rfl⟩
       have rb2 : D1[(0 : Int).toNat]? = some [.c (.v (.int .u8 b1))] := by rw [hD1b, hbb1]; rfl
       have hg : b.getD 0 0 = b1 := by rw [hbb1]; rfl
       conv => cbv
       refine ⟨_, hb0, rb2, rfl, ?_⟩
       conv => cbv
       refine ⟨fun h => ?_, fun h => ?_⟩
       ·have g6 := cLt har (a := b1) (b := 128) h
        have hkE := hkE ⟨rfl, by omega, by rw [hg]; exact g6⟩
        conv => cbv
        exact hkE
       ·have g6 := cNlt har (a := b1) (b := 128) h
        conv => cbv
        refine ⟨by rw [har]; kernel_rfl, ?_⟩
        rw [hcat1]
        exact ⟨fun _ => s11, fun _ => s21, hkF (fun hc => by rw [hg] at hc; omega)⟩
      ·have g5 := cNeq har (a := N) (b := 1) h
       conv => cbv
       refine ⟨by rw [har]; kernel_rfl, ?_⟩
       rw [hcat1]
       exact ⟨fun _ => s11, fun _ => s21, hkF (fun hc => by omega)⟩
end Go.Eng
namespace Go.Eng
open Go Go.Proofs
set_option linter.unusedSectionVars false
set_option linter.unusedVariables false
theorem cutF_len {l : Bool} {n : Nat} {b : List Int} (h : (cutF l n b).2.2.2 = 0) : (cutF l n b).2.1.length + (cutF l n b).2.2.1.length = b.length ∧ (cutF l n b).1 = l := by
 revert h
 unfold cutF
 split
 ·intro h; cases h
 ·split
  ·intro h; cases h
  ·intro _
   simp only [List.length_take, List.length_drop]
   exact ⟨by omega, trivial⟩
theorem cutL_len {l : Bool} {n : Nat} {b : List Int} (h : (cutL l n b).2.2.2 = 0) : (cutL l n b).2.1.length + (cutL l n b).2.2.1.length ≤ b.length ∧ (cutL l n b).1 = l := by
 revert h
 unfold cutL
 split
 ·split
  ·intro h; cases h
  ·split
   ·intro h; cases h
   ·split
    ·intro h; cases h
    ·intro h
     have := cutF_len h
     rw [List.length_drop] at this
     exact ⟨by omega, this.2⟩
 ·intro h
  have := cutF_len h
  exact ⟨by omega, this.2⟩
theorem cutR_len {d : List Int} (h : (cutR d).2.2.2 = 0) : (cutR d).2.2.1.length < d.length ∧ (cutR d).2.1.length ≤ d.length ∧ ((cutR d).1 = true → (cutR d).2.1.length + (cutR d).2.2.1.length < d.length) := by
 revert h
 cases d with
 | nil => intro h; cases h
 | cons c b =>
  simp only [cutR]
  split
  ·intro _
   exact ⟨by simp, by simp, by simp⟩
  ·split
   ·intro h
    have := (cutL_len h).1
    rw [List.length_cons]
    exact ⟨by omega, by omega, by omega⟩
   ·intro h
    have := (cutL_len h).1
    rw [List.length_cons]
    exact ⟨by omega, by omega, by omega⟩
theorem cutF_sub {P : Int → Prop} {l : Bool} {n : Nat} {b : List Int} (hb : ∀ x ∈ b, P x) : (∀ x ∈ (cutF l n b).2.1, P x) ∧ ∀ x ∈ (cutF l n b).2.2.1, P x := by
 unfold cutF
 split
 ·exact ⟨by simp, by simp⟩
 ·split
  ·exact ⟨by simp, by simp⟩
  ·exact ⟨fun x hx => hb x (List.mem_of_mem_take hx), fun x hx => hb x (List.mem_of_mem_drop hx)⟩
theorem cutL_sub {P : Int → Prop} {l : Bool} {n : Nat} {b : List Int} (hb : ∀ x ∈ b, P x) : (∀ x ∈ (cutL l n b).2.1, P x) ∧ ∀ x ∈ (cutL l n b).2.2.1, P x := by
 unfold cutL
 split
 ·split
  ·exact ⟨by simp, by simp⟩
  ·split
   ·exact ⟨by simp, by simp⟩
   ·split
    ·exact ⟨by simp, by simp⟩
    ·exact cutF_sub fun x hx => hb x (List.mem_of_mem_drop hx)
 ·exact cutF_sub hb
theorem cutR_sub {P : Int → Prop} {d : List Int} (hb : ∀ x ∈ d, P x) : (∀ x ∈ (cutR d).2.1, P x) ∧ ∀ x ∈ (cutR d).2.2.1, P x := by
 cases d with
 | nil => exact ⟨by simp [cutR], by simp [cutR]⟩
 | cons c b =>
  have h1 := hb c (by simp)
  have h2 : ∀ x ∈ b, P x := fun x hx => hb x (by simp [hx])
  simp only [cutR]
  split
  ·exact ⟨by simpa using h1, h2⟩
  ·split
   ·exact cutL_sub h2
   ·exact cutL_sub h2
def dL : Nat → Nat → List Int → Except Int (List It)
 | _, _, [] => .ok []
 | 0, _, _ :: _ => .error 0
 | f + 1, w, c :: p => if (cutR (c :: p)).2.2.2 = 0 then
   if (cutR (c :: p)).1 = true then
    if w = 1024 then .error 74 else match dL f (w + 1) (cutR (c :: p)).2.1 with
     | .error e => .error e
     | .ok its => match dL f w (cutR (c :: p)).2.2.1 with
      | .error e => .error e
      | .ok xs => .ok (.lst its :: xs)
   else match dL f w (cutR (c :: p)).2.2.1 with
    | .error e => .error e
    | .ok xs => .ok (.txt (cutR (c :: p)).2.1 :: xs)
  else .error (cutR (c :: p)).2.2.2
theorem dL_fuel : ∀ (f f' w : Nat) (p : List Int), p.length ≤ f → p.length ≤ f' → dL f w p = dL f' w p
 | 0, f', w, p, h, h' => by
  have : p = [] := List.eq_nil_of_length_eq_zero (by omega)
  subst this
  cases f' <;> rfl
 | f + 1, 0, w, p, h, h' => by
  have : p = [] := List.eq_nil_of_length_eq_zero (by omega)
  subst this
  rfl
 | f + 1, f' + 1, w, [], h, h' => rfl
 | f + 1, f' + 1, w, c :: p, h, h' => by
  rw [List.length_cons] at h h'
  simp only [dL]
  by_cases he : (cutR (c :: p)).2.2.2 = 0
  ·obtain ⟨h1, _, h3⟩ := cutR_len he
   rw [List.length_cons] at h1 h3
   rw [if_pos he, if_pos he]
   rw [dL_fuel f f' w (cutR (c :: p)).2.2.1 (by omega) (by omega)]
   by_cases hl : (cutR (c :: p)).1 = true
   ·rw [if_pos hl, if_pos hl]
    have := h3 hl
    rw [dL_fuel f f' (w + 1) (cutR (c :: p)).2.1 (by omega) (by omega)]
   ·rw [if_neg hl, if_neg hl]
  ·rw [if_neg he, if_neg he]
def dec (w : Nat) (p : List Int) : Except Int (List It) := dL p.length w p
theorem dec_nil (w : Nat) : dec w [] = .ok [] := rfl
theorem dec_cons (w : Nat) {p : List Int} (hp : p ≠ []) : dec w p = if (cutR p).2.2.2 = 0 then
   if (cutR p).1 = true then
    if w = 1024 then .error 74 else match dec (w + 1) (cutR p).2.1 with
     | .error e => .error e
     | .ok its => match dec w (cutR p).2.2.1 with
      | .error e => .error e
      | .ok xs => .ok (.lst its :: xs)
   else match dec w (cutR p).2.2.1 with
    | .error e => .error e
    | .ok xs => .ok (.txt (cutR p).2.1 :: xs)
  else .error (cutR p).2.2.2 := by
 cases p with
 | nil => exact absurd rfl hp
 | cons c p =>
  unfold dec
  rw [List.length_cons]
  simp only [dL]
  by_cases he : (cutR (c :: p)).2.2.2 = 0
  ·obtain ⟨h1, _, h3⟩ := cutR_len he
   rw [List.length_cons] at h1 h3
   rw [if_pos he, if_pos he]
   rw [dL_fuel p.length (cutR (c :: p)).2.2.1.length w (cutR (c :: p)).2.2.1 (by omega) (by omega)]
   by_cases hl : (cutR (c :: p)).1 = true
   ·rw [if_pos hl, if_pos hl]
    have := h3 hl
    rw [dL_fuel p.length (cutR (c :: p)).2.1.length (w + 1) (cutR (c :: p)).2.1 (by omega) (by omega)]
   ·rw [if_neg hl, if_neg hl]
  ·rw [if_neg he, if_neg he]
structure Opn where
 its : List It
 bh : List Int
 sb : List (List PS)
def cEnd : List Opn → It → List Int → Except Int It
 | [], it, b => if b = [] then .ok it else .error 73
 | o :: S, it, b => match dec (S.length + 1) b with
  | .error e => .error e
  | .ok xs => cEnd S (.lst (o.its ++ it :: xs)) o.bh
def cWithin (its : List It) (bh : List Int) (S : List Opn) (b : List Int) : Except Int It :=
 match dec (S.length + 1) b with
 | .error e => .error e
 | .ok xs => cEnd S (.lst (its ++ xs)) bh
def cItem (S : List Opn) (b : List Int) : Except Int It :=
 if (cutR b).2.2.2 = 0 then
  if (cutR b).1 = true then (if S.length = 1024 then .error 74 else cWithin [] (cutR b).2.2.1 S (cutR b).2.1)
  else cEnd S (.txt (cutR b).2.1) (cutR b).2.2.1
 else .error (cutR b).2.2.2
theorem cEnd_cons (o : Opn) (S : List Opn) (it : It) (b : List Int) : cEnd (o :: S) it b = cWithin (o.its ++ [it]) o.bh S b := by
 simp only [cEnd, cWithin, List.append_assoc, List.singleton_append]
theorem cWithin_nil (its : List It) (bh : List Int) (S : List Opn) : cWithin its bh S [] = cEnd S (.lst its) bh := by
 simp only [cWithin, dec_nil, List.append_nil]
theorem cWithin_item (o : Opn) (S : List Opn) {b : List Int} (hb : b ≠ []) : cWithin o.its o.bh S b = cItem (o :: S) b := by
 unfold cWithin cItem
 rw [dec_cons _ hb]
 by_cases he : (cutR b).2.2.2 = 0
 ·rw [if_pos he, if_pos he]
  by_cases hl : (cutR b).1 = true
  ·rw [if_pos hl, if_pos hl, List.length_cons]
   by_cases hw : S.length + 1 = 1024
   ·rw [if_pos hw, if_pos hw]
   ·rw [if_neg hw, if_neg hw]
    unfold cWithin
    rw [List.length_cons]
    cases dec (S.length + 1 + 1) (cutR b).2.1 with
    | error e => rfl
    | ok its =>
     simp only [cEnd, List.nil_append]
     cases dec (S.length + 1) (cutR b).2.2.1 with
     | error e => rfl
     | ok xs => rfl
  ·rw [if_neg hl, if_neg hl]
   simp only [cEnd]
   cases dec (S.length + 1) (cutR b).2.2.1 with
   | error e => rfl
   | ok xs => rfl
 ·rw [if_neg he, if_neg he]
def decR (d : List Int) : Except Int It := if 16777216 < d.length then .error 2 else cItem [] d
def Opn.row (o : Opn) : List PS := [.c (.ow (rowsOf o.its) 52 3 56), .c (.sl (o.bh.map b8) o.sb)]
def rowsS (S : List Opn) : List (List PS) := (S.map Opn.row).reverse
def Opn.ok (o : Opn) : Prop := bytesOk o.bh ∧ ∀ z ∈ o.sb, rlen z = 1
theorem rowsS_length (S : List Opn) : (rowsS S).length = S.length := by simp [rowsS]
theorem rowsS_cons (o : Opn) (S : List Opn) : rowsS (o :: S) = rowsS S ++ [o.row] := by simp [rowsS]
theorem rowsS_last (o : Opn) (S : List Opn) : (rowsS (o :: S))[S.length]? = some o.row := by
 rw [rowsS_cons, List.getElem?_append_right (by rw [rowsS_length]; exact Nat.le_refl _), rowsS_length, Nat.sub_self]; rfl
theorem rowsS_set (o o' : Opn) (S : List Opn) : (rowsS (o :: S)).set S.length o'.row = rowsS (o' :: S) := by
 rw [rowsS_cons, rowsS_cons, List.set_append_right _ _ (by rw [rowsS_length]; exact Nat.le_refl _), rowsS_length, Nat.sub_self]; rfl
theorem rowsS_take (o : Opn) (S : List Opn) (r : List PS) : ((rowsS (o :: S)).set S.length r).take S.length = rowsS S := by
 rw [rowsS_cons, List.set_append_right _ _ (by rw [rowsS_length]; exact Nat.le_refl _), List.take_append_of_le_length (by rw [rowsS_length]; exact Nat.le_refl _), List.take_of_length_le (by rw [rowsS_length]; exact Nat.le_refl _)]
def left (b : List Int) (S : List Opn) : Nat := b.length + (S.map fun o => o.bh.length).sum
def held (S : List Opn) : Nat := (S.map fun o => o.its.length + 1).sum
theorem held_le (S : List Opn) : S.length ≤ held S := by
 unfold held
 induction S with
 | nil => simp
 | cons o S ih => simp only [List.map_cons, List.sum_cons, List.length_cons]; omega
theorem left_eq (b : List Int) (S : List Opn) : left b S = b.length + left [] S := by simp [left]
theorem left_cons (b : List Int) (o : Opn) (S : List Opn) : left b (o :: S) = b.length + o.bh.length + left [] S := by simp [left]; omega
theorem held_cons (o : Opn) (S : List Opn) : held (o :: S) = o.its.length + 1 + held S := by simp [held]
section
variable {ar : Ar} (har : ar = arS) {X : List (List PS)} {o : Opn} {S : List Opn} (hX : X = rowsS (o :: S)) (hl : S.length ≤ 2 ^ 30)
include har hX hl
theorem dqLen : X.length = S.length + 1 := by rw [hX, rowsS_length, List.length_cons]
theorem dqIx : ar.nat (ar.ib .sub .i64 (ar.len X) 1) = S.length := by
 have e := dqLen har hX hl
 rw [lenIs har, e, iSub har (by omega)]; exact natOf har (by omega)
theorem dqB : (0 : Int) ≤ ar.ib .sub .i64 (ar.len X) 1 ∧ ar.ib .sub .i64 (ar.len X) 1 < (X.length : Int) := by
 have e := dqLen har hX hl
 rw [lenIs har, e, iSub har (by omega)]; omega
theorem dqGet {r : List PS} (hr : o.row = r) : X[ar.nat (ar.ib .sub .i64 (ar.len X) 1)]? = some r := by rw [dqIx har hX hl, hX, rowsS_last, hr]
theorem dqGet2 (r : List PS) : (ar.setx X (ar.nat (ar.ib .sub .i64 (ar.len X) 1)) r)[ar.nat (ar.ib .sub .i64 (ar.len X) 1)]? = some r := by
 have e := dqLen har hX hl
 rw [setxIs har, dqIx har hX hl, List.getElem?_set_self (by omega)]
theorem dqB2 (r : List PS) : (0 : Int) ≤ ar.ib .sub .i64 (ar.len X) 1 ∧ ar.ib .sub .i64 (ar.len X) 1 < ((ar.setx X (ar.nat (ar.ib .sub .i64 (ar.len X) 1)) r).length : Int) := by
 rw [setxIs har, List.length_set]; exact dqB har hX hl
theorem dqLenS (i : Nat) (r : List PS) : ar.len (ar.setx X i r) = ar.len X := by rw [lenIs har, lenIs har, setxIs har, List.length_set]
theorem dqPut {o' : Opn} {r1 r2 r : List PS} (hr : o'.row = r) : ar.setx (ar.setx (ar.setx X (ar.nat (ar.ib .sub .i64 (ar.len X) 1)) r1) (ar.nat (ar.ib .sub .i64 (ar.len X) 1)) r2) (ar.nat (ar.ib .sub .i64 (ar.len X) 1)) r = rowsS (o' :: S) := by
 rw [dqIx har hX hl, setxIs har, setxIs har, setxIs har, List.set_set, List.set_set, hX, ← hr, rowsS_set]
theorem dqB3 (i : Nat) (r : List PS) : (0 : Int) ≤ ar.ib .sub .i64 (ar.len (ar.setx X i r)) 1 ∧ ar.ib .sub .i64 (ar.len (ar.setx X i r)) 1 < ((ar.setx X i r).length : Int) := by
 rw [dqLenS har hX hl, setxIs har, List.length_set]; exact dqB har hX hl
theorem dqGet3 (r : List PS) : (ar.setx X (ar.nat (ar.ib .sub .i64 (ar.len X) 1)) r)[ar.nat (ar.ib .sub .i64 (ar.len (ar.setx X (ar.nat (ar.ib .sub .i64 (ar.len X) 1)) r)) 1)]? = some r := by
 rw [dqLenS har hX hl]; exact dqGet2 har hX hl r
theorem dqB4 (i : Nat) (r : List PS) : (0 : Int) ≤ ar.ib .sub .i64 (ar.len (ar.setx X i r)) 1 ∧ ar.ib .sub .i64 (ar.len (ar.setx X i r)) 1 ≤ ((ar.setx X i r).length : Int) := by
 have := dqB3 har hX hl i r; omega
theorem dqPop (r : List PS) : ar.mid (ar.setx X (ar.nat (ar.ib .sub .i64 (ar.len X) 1)) r) 0 (ar.nat (ar.ib .sub .i64 (ar.len (ar.setx X (ar.nat (ar.ib .sub .i64 (ar.len X) 1)) r)) 1)) = rowsS S := by
 rw [dqLenS har hX hl, dqIx har hX hl, setxIs har, midIs har, List.drop_zero, hX, rowsS_take]
end
end Go.Eng
namespace Go.Eng
open Go Go.Proofs
set_option maxRecDepth 100000
set_option maxHeartbeats 8000000
set_option linter.unusedVariables false
structure DQ where
 lab : Nat
 B : List (List PS)
 sb : List (List PS)
 X : List (List PS)
 l : Bool
 D : List (List PS)
 sd : List (List PS)
 I : List (List PS)
 ss : List (List PS)
 e : Int
 m : Nat
def dqGood (R : Except Int It) (q : DQ) : Prop :=
 (q.lab = 0 ∧ R = .error q.e ∧ q.m = 0) ∨
 (q.lab = 1 ∧ ∃ (S : List Opn) (b : List Int), q.B = b.map b8 ∧ bytesOk b ∧ (∀ z ∈ q.sb, rlen z = 1) ∧ q.X = rowsS S ∧ (∀ o ∈ S, o.ok) ∧ left b S + held S ≤ 16777216 ∧ cItem S b = R ∧ q.m = 6 * left b S + 2 * S.length + 1) ∨
 (q.lab = 2 ∧ ∃ (S : List Opn) (b : List Int) (it : It), q.B = b.map b8 ∧ bytesOk b ∧ (∀ z ∈ q.sb, rlen z = 1) ∧ q.X = rowsS S ∧ (∀ o ∈ S, o.ok) ∧ it.row = [.c (.v (.bool q.l)), .c (.sl q.D q.sd), .c (.sl q.I q.ss)] ∧ left b S + held S + 1 ≤ 16777216 ∧ cEnd S it b = R ∧ q.m = 6 * left b S + 2 * S.length + 2) ∨
 (q.lab = 3 ∧ ∃ (o : Opn) (S : List Opn) (b : List Int), q.B = b.map b8 ∧ bytesOk b ∧ (∀ z ∈ q.sb, rlen z = 1) ∧ q.X = rowsS (o :: S) ∧ (∀ o' ∈ o :: S, o'.ok) ∧ left b (o :: S) + held (o :: S) ≤ 16777216 ∧ cWithin o.its o.bh S b = R ∧ q.m = 6 * left b (o :: S) + 2 * S.length + 4)
def dqSt (q : DQ) : St :=
 match q.lab with
 | 0 => ⟨mk 105 [(2, .s (.ptr 0 0)), (3, .s (.lit .i64 0)), (9, pint q.e)], [.box [.c (.bl false), .c .nil, .c .nil]]⟩
 | _ => ⟨mk 105 [(0, .s (.p (.sl q.B q.sb))), (2, .s (.ptr 0 0)), (3, .s (.lit .i64 0)), (4, .s (.own 2)), (5, .s (.ptr 1 0))], [.box [.c (.bl false), .c .nil, .c .nil], .box [.c (.p (.v (.bool q.l))), .c (.p (.sl q.D q.sd)), .c (.p (.sl q.I q.ss))], .nest q.X 113 2 48 none]⟩
def decK (R : Except Int It) (k : List PR → Prop) : Prop :=
 match R with
 | .ok it => k [.a it.row, .s (.v (.int .i64 0))]
 | .error e => k [.a It.zero.row, .s (.v (.int .i64 e))]
theorem decode_sound : Sound Tryd.prog 44 fun args k => ∃ (d : List Int) (sd : List (List PS)), args = [.s (.sl (d.map b8) sd)] ∧ bytesOk d ∧ d.length ≤ 2 ^ 40 ∧ (∀ z ∈ sd, rlen z = 1) ∧ decK (decR d) k := by
 refine Sound.of_body tt_ok ent_ok Tryd.func44 rfl ?_
 rintro ar har Γ hΓ args k ⟨d, sd, hargs, hok, hl, hsd, hk⟩
 obtain ⟨B0, hB0⟩ : ∃ D, D = d.map b8 := ⟨_, rfl⟩
 obtain ⟨R, hR⟩ : ∃ R, R = decR d := ⟨_, rfl⟩
 have hB0l : ar.len B0 = (d.length : Int) := by rw [lenIs har, hB0, List.length_map]
 rw [← hB0] at hargs
 rw [← hR] at hk
 subst hargs
 conv => cbv
 refine ⟨{ q : DQ // dqGood R q }, fun q => q.1.lab, fun q => dqSt q.1, fun q => q.1.m, [], [.settle 2, .fbx 1], _, rfl, ?_, ?_⟩
 ·conv => cbv
  refine ⟨fun h => ?_, fun h => ?_⟩
  ·have g := cGt har (a := ar.len B0) (b := 16777216) h
   have hR2 : R = .error 2 := by rw [hR, decR, if_pos (by omega)]
   conv => cbv
   refine ⟨⟨⟨0, [], [], [], false, [], [], [], [], 2, 0⟩, .inl ⟨rfl, hR2, rfl⟩⟩, rfl, ?_⟩
   conv => cbv
   simp
  have g := cNgt har (a := ar.len B0) (b := 16777216) h
  have hc : cItem [] d = R := by rw [hR, decR, if_neg (by omega)]
  have hB := hB0
  have hsb := hsd
  have dok := hok
  have hX : ([] : List (List PS)) = rowsS [] := rfl
  have hS : ∀ o ∈ ([] : List Opn), o.ok := by simp
  have hcnt : left d [] + held [] ≤ 16777216 := by simp only [left, held, List.map_nil, List.sum_nil]; omega
  conv => cbv
  refine ⟨[.nest 4 113], _, rfl, ?_⟩
  conv => cbv
  obtain ⟨L, hL⟩ : ∃ x, x = (cutR d).1 := ⟨_, rfl⟩
  obtain ⟨p, hp⟩ : ∃ x, x = (cutR d).2.1 := ⟨_, rfl⟩
  obtain ⟨r, hr⟩ : ∃ x, x = (cutR d).2.2.1 := ⟨_, rfl⟩
  obtain ⟨E, hE⟩ : ∃ x, x = (cutR d).2.2.2 := ⟨_, rfl⟩
  obtain ⟨P, hP⟩ : ∃ x, x = p.map b8 := ⟨_, rfl⟩
  obtain ⟨Q, hQ⟩ : ∃ x, x = r.map b8 := ⟨_, rfl⟩
  have hsub := cutR_sub (P := fun x : Int => 0 ≤ x ∧ x < 256) dok
  rw [← hp, ← hr] at hsub
  obtain ⟨hpok, hrok⟩ := hsub
  have hlen : E = 0 → r.length < d.length ∧ p.length ≤ d.length ∧ (L = true → p.length + r.length < d.length) := fun h => by
   have := cutR_len (d := d) (by rw [← hE]; exact h)
   rw [← hr, ← hp, ← hL] at this
   exact this
  have hItem : cItem ([] : List Opn) d = if E = 0 then (if L = true then (if ([] : List Opn).length = 1024 then .error 74 else cWithin [] r ([] : List Opn) p) else cEnd ([] : List Opn) (.txt p) r) else .error E := by
   unfold cItem
   rw [← hL, ← hp, ← hr, ← hE]
  have callCut : ∀ (Γ : Ctx) (d' : Nat) (k : List PR → Prop) (R : Prop), Γ = ctx Tryd.prog d' → (∀ sp sr : List (List PS), (∀ z ∈ sp, rlen z = 1) → (∀ z ∈ sr, rlen z = 1) → k [.s (.v (.bool L)), .s (.sl P sp), .s (.sl Q sr), .s (.v (.int .i64 E))]) → Γ.g 66 [.s (.sl B0 sd)] k ∨ R := fun Γ d' k R hΓ hk => call_by hΓ cut_sound ⟨d, sd, by rw [hB], dok, by omega, hsb, by rw [← hL, ← hp, ← hr, ← hE, ← hP, ← hQ]; exact hk⟩
  have A1 := left_eq d ([] : List Opn)
  have A2 := left_eq r ([] : List Opn)
  have A3 : ∀ sr : List (List PS), left p ((⟨[], r, sr⟩ : Opn) :: ([] : List Opn)) = p.length + r.length + left [] ([] : List Opn) := fun sr => left_cons p _ ([] : List Opn)
  have A4 : ∀ sr : List (List PS), held ((⟨[], r, sr⟩ : Opn) :: ([] : List Opn)) = 0 + 1 + held ([] : List Opn) := fun sr => held_cons _ ([] : List Opn)
  have hXl : ar.len ([] : List (List PS)) = (([] : List Opn).length : Int) := by rw [lenIs har, hX, rowsS_length]
  refine callCut _ _ _ _ hΓ fun sp sr hsp hsr => ?_
  conv => cbv
  refine ⟨fun h => ?_, fun h => ?_⟩
  ·have g := cNe har (a := E) (b := 0) h
   have hRE : R = .error E := by rw [← hc, hItem, if_neg g]
   conv => cbv
   refine ⟨⟨⟨0, [], [], [], false, [], [], [], [], E, 0⟩, .inl ⟨rfl, hRE, rfl⟩⟩, rfl, ?_⟩
   conv => cbv
   simp
  have g := cNne har (a := E) (b := 0) h
  obtain ⟨hl1, hl2, hl3⟩ := hlen g
  rw [if_pos g] at hItem
  conv => cbv
  refine ⟨fun h => ?_, fun h => ?_⟩
  ·have g2 := nbT har h
   have hRT : cEnd ([] : List Opn) (.txt p) r = R := by rw [← hc, hItem, g2]; rfl
   have hrow : (It.txt p).row = [.c (.v (.bool false)), .c (.sl P []), .c (.sl [] [])] := by rw [hP]; rfl
   have callT : ∀ (Γ : Ctx) (d' : Nat) (k : List PR → Prop) (R : Prop), Γ = ctx Tryd.prog d' → k [.a [.c (.v (.bool false)), .c (.sl P []), .c (.sl [] [])]] → Γ.g 61 [.s (.sl P sp)] k ∨ R := fun Γ d' k R hΓ hk => call_by hΓ text_sound ⟨p, sp, by rw [hP], by omega, by rw [hrow]; exact hk⟩
   conv => cbv
   refine callT _ _ _ _ hΓ ?_
   conv => cbv
   refine ⟨⟨⟨2, Q, sr, ([] : List (List PS)), false, P, [], [], [], 0, 6 * left r ([] : List Opn) + 2 * ([] : List Opn).length + 2⟩, .inr (.inr (.inl ⟨rfl, ([] : List Opn), r, .txt p, hQ, hrok, hsr, hX, hS, hrow, by omega, hRT, rfl⟩))⟩, rfl, ?_⟩
   conv => cbv
   simp
  ·have g2 := nbF har h
   rw [if_pos g2] at hItem
   have hl3 := hl3 g2
   conv => cbv
   refine ⟨fun h => ?_, fun h => ?_⟩
   ·have g3 := cEq har (a := ar.len ([] : List (List PS))) (b := 1024) h
    have hRE : R = .error 74 := by rw [← hc, hItem, if_pos (by omega)]
    conv => cbv
    refine ⟨⟨⟨0, [], [], [], false, [], [], [], [], 74, 0⟩, .inl ⟨rfl, hRE, rfl⟩⟩, rfl, ?_⟩
    conv => cbv
    simp
   ·have g3 := cNeq har (a := ar.len ([] : List (List PS))) (b := 1024) h
    have hRW : cWithin [] r ([] : List Opn) p = R := by rw [← hc, hItem, if_neg (by omega)]
    have hap : (ar.app ([] : List (List PS)) [[.c (.ow [] 52 3 56), .c (.sl Q sr)]]) = rowsS ((⟨[], r, sr⟩ : Opn) :: ([] : List Opn)) := by rw [appIs har, rowsS_cons, hX, hQ]; rfl
    have hXn : ([] : List (List PS)).length = ([] : List Opn).length := by rw [hX, rowsS_length]
    have hbnd : (([] : List (List PS)).length + 1) * 48 ≤ 140737488355328 := by
     have := held_le ([] : List Opn)
     omega
    conv => cbv
    refine ⟨fun _ => ⟨Nat.zero_lt_one, hbnd, fun y hy => by rw [List.mem_singleton] at hy; subst hy; rfl⟩, ?_⟩
    refine ⟨⟨⟨3, P, sp, ar.app ([] : List (List PS)) [[.c (.ow [] 52 3 56), .c (.sl Q sr)]], true, [], [], [], [], 0, 6 * (p.length + r.length + left [] ([] : List Opn)) + 2 * ([] : List Opn).length + 4⟩, .inr (.inr (.inr ⟨rfl, ⟨[], r, sr⟩, ([] : List Opn), p, hP, hpok, hsp, hap, fun o ho => by rcases List.mem_cons.1 ho with rfl | ho; exact ⟨hrok, hsr⟩; exact hS o ho, by rw [A3, A4]; omega, hRW, by rw [A3]⟩))⟩, rfl, ?_⟩
    conv => cbv
    simp
 ·rintro ⟨⟨lab, B, sb, X, l, D, sdd, I, ss, e, m⟩, hq⟩
  rcases hq with ⟨h1, hRe, hm⟩ | ⟨h1, S, b, hB, bok, hsb, hX, hS, hcnt, hc, hm⟩ | ⟨h1, S, b, it, hB, bok, hsb, hX, hS, hrw, hcnt, hc, hm⟩ | ⟨h1, o, S, b, hB, bok, hsb, hX, hS, hcnt, hc, hm⟩
  ·dsimp only at h1 hRe hm
   subst h1
   conv => cbv
   rw [hRe] at hk
   exact hk
  ·dsimp only at h1 hB bok hsb hX hS hcnt hc hm
   subst h1
   have hbl : b.length ≤ 16777216 := by have := left_eq b S; omega
   conv => cbv
   obtain ⟨L, hL⟩ : ∃ x, x = (cutR b).1 := ⟨_, rfl⟩
   obtain ⟨p, hp⟩ : ∃ x, x = (cutR b).2.1 := ⟨_, rfl⟩
   obtain ⟨r, hr⟩ : ∃ x, x = (cutR b).2.2.1 := ⟨_, rfl⟩
   obtain ⟨E, hE⟩ : ∃ x, x = (cutR b).2.2.2 := ⟨_, rfl⟩
   obtain ⟨P, hP⟩ : ∃ x, x = p.map b8 := ⟨_, rfl⟩
   obtain ⟨Q, hQ⟩ : ∃ x, x = r.map b8 := ⟨_, rfl⟩
   have hsub := cutR_sub (P := fun x : Int => 0 ≤ x ∧ x < 256) bok
   rw [← hp, ← hr] at hsub
   obtain ⟨hpok, hrok⟩ := hsub
   have hlen : E = 0 → r.length < b.length ∧ p.length ≤ b.length ∧ (L = true → p.length + r.length < b.length) := fun h => by
    have := cutR_len (d := b) (by rw [← hE]; exact h)
    rw [← hr, ← hp, ← hL] at this
    exact this
   have hItem : cItem S b = if E = 0 then (if L = true then (if S.length = 1024 then .error 74 else cWithin [] r S p) else cEnd S (.txt p) r) else .error E := by
    unfold cItem
    rw [← hL, ← hp, ← hr, ← hE]
   have callCut : ∀ (Γ : Ctx) (d' : Nat) (k : List PR → Prop) (R : Prop), Γ = ctx Tryd.prog d' → (∀ sp sr : List (List PS), (∀ z ∈ sp, rlen z = 1) → (∀ z ∈ sr, rlen z = 1) → k [.s (.v (.bool L)), .s (.sl P sp), .s (.sl Q sr), .s (.v (.int .i64 E))]) → Γ.g 66 [.s (.sl B sb)] k ∨ R := fun Γ d' k R hΓ hk => call_by hΓ cut_sound ⟨b, sb, by rw [hB], bok, by omega, hsb, by rw [← hL, ← hp, ← hr, ← hE, ← hP, ← hQ]; exact hk⟩
   have A1 := left_eq b S
   have A2 := left_eq r S
   have A3 : ∀ sr : List (List PS), left p ((⟨[], r, sr⟩ : Opn) :: S) = p.length + r.length + left [] S := fun sr => left_cons p _ S
   have A4 : ∀ sr : List (List PS), held ((⟨[], r, sr⟩ : Opn) :: S) = 0 + 1 + held S := fun sr => held_cons _ S
   have hXl : ar.len X = (S.length : Int) := by rw [lenIs har, hX, rowsS_length]
   refine callCut _ _ _ _ hΓ fun sp sr hsp hsr => ?_
   conv => cbv
   refine ⟨fun h => ?_, fun h => ?_⟩
   ·have g := cNe har (a := E) (b := 0) h
    have hRE : R = .error E := by rw [← hc, hItem, if_neg g]
    conv => cbv
    refine ⟨⟨⟨0, [], [], [], false, [], [], [], [], E, 0⟩, .inl ⟨rfl, hRE, rfl⟩⟩, rfl, ?_, ?_⟩
    ·conv => cbv
     simp
    ·show (0 : Nat) < m
     rw [hm]; omega
   have g := cNne har (a := E) (b := 0) h
   obtain ⟨hl1, hl2, hl3⟩ := hlen g
   rw [if_pos g] at hItem
   conv => cbv
   refine ⟨fun h => ?_, fun h => ?_⟩
   ·have g2 := nbT har h
    have hRT : cEnd S (.txt p) r = R := by rw [← hc, hItem, g2]; rfl
    have hrow : (It.txt p).row = [.c (.v (.bool false)), .c (.sl P []), .c (.sl [] [])] := by rw [hP]; rfl
    have callT : ∀ (Γ : Ctx) (d' : Nat) (k : List PR → Prop) (R : Prop), Γ = ctx Tryd.prog d' → k [.a [.c (.v (.bool false)), .c (.sl P []), .c (.sl [] [])]] → Γ.g 61 [.s (.sl P sp)] k ∨ R := fun Γ d' k R hΓ hk => call_by hΓ text_sound ⟨p, sp, by rw [hP], by omega, by rw [hrow]; exact hk⟩
    conv => cbv
    refine callT _ _ _ _ hΓ ?_
    conv => cbv
    refine ⟨⟨⟨2, Q, sr, X, false, P, [], [], [], 0, 6 * left r S + 2 * S.length + 2⟩, .inr (.inr (.inl ⟨rfl, S, r, .txt p, hQ, hrok, hsr, hX, hS, hrow, by omega, hRT, rfl⟩))⟩, rfl, ?_, ?_⟩
    ·conv => cbv
     simp
    ·show (6 * left r S + 2 * S.length + 2 : Nat) < m
     rw [hm]; omega
   ·have g2 := nbF har h
    rw [if_pos g2] at hItem
    have hl3 := hl3 g2
    conv => cbv
    refine ⟨fun h => ?_, fun h => ?_⟩
    ·have g3 := cEq har (a := ar.len X) (b := 1024) h
     have hRE : R = .error 74 := by rw [← hc, hItem, if_pos (by omega)]
     conv => cbv
     refine ⟨⟨⟨0, [], [], [], false, [], [], [], [], 74, 0⟩, .inl ⟨rfl, hRE, rfl⟩⟩, rfl, ?_, ?_⟩
     ·conv => cbv
      simp
     ·show (0 : Nat) < m
      rw [hm]; omega
    ·have g3 := cNeq har (a := ar.len X) (b := 1024) h
     have hRW : cWithin [] r S p = R := by rw [← hc, hItem, if_neg (by omega)]
     have hap : (ar.app X [[.c (.ow [] 52 3 56), .c (.sl Q sr)]]) = rowsS ((⟨[], r, sr⟩ : Opn) :: S) := by rw [appIs har, rowsS_cons, hX, hQ]; rfl
     have hXn : X.length = S.length := by rw [hX, rowsS_length]
     have hbnd : (X.length + 1) * 48 ≤ 140737488355328 := by
      have := held_le S
      omega
     conv => cbv
     refine ⟨fun _ => ⟨Nat.zero_lt_one, hbnd, fun y hy => by rw [List.mem_singleton] at hy; subst hy; rfl⟩, ?_⟩
     refine ⟨⟨⟨3, P, sp, ar.app X [[.c (.ow [] 52 3 56), .c (.sl Q sr)]], true, [], [], [], [], 0, 6 * (p.length + r.length + left [] S) + 2 * S.length + 4⟩, .inr (.inr (.inr ⟨rfl, ⟨[], r, sr⟩, S, p, hP, hpok, hsp, hap, fun o ho => by rcases List.mem_cons.1 ho with rfl | ho; exact ⟨hrok, hsr⟩; exact hS o ho, by rw [A3, A4]; omega, hRW, by rw [A3]⟩))⟩, rfl, ?_, ?_⟩
     ·conv => cbv
      simp
     ·show (6 * (p.length + r.length + left [] S) + 2 * S.length + 4 : Nat) < m
      rw [hm]; omega
  ·dsimp only at h1 hB bok hsb hX hS hrw hcnt hc hm
   subst h1
   have hbl : b.length ≤ 16777216 := by have := left_eq b S; omega
   have hBl : ar.len B = (b.length : Int) := by rw [lenIs har, hB, List.length_map]
   have hXl : ar.len X = (S.length : Int) := by rw [lenIs har, hX, rowsS_length]
   conv => cbv
   refine ⟨fun h => ?_, fun h => ?_⟩
   ·have g := cEq har (a := ar.len X) (b := 0) h
    have hS0 : S = [] := List.eq_nil_of_length_eq_zero (by omega)
    subst hS0
    conv => cbv
    refine ⟨fun h => ?_, fun h => ?_⟩
    ·have g2 := cGt har (a := ar.len B) (b := 0) h
     have hRE : R = .error 73 := by rw [← hc, cEnd, if_neg (fun e => by rw [e, List.length_nil] at hBl; omega)]
     conv => cbv
     refine ⟨⟨⟨0, [], [], [], false, [], [], [], [], 73, 0⟩, .inl ⟨rfl, hRE, rfl⟩⟩, rfl, ?_, ?_⟩
     ·conv => cbv
      simp
     ·show (0 : Nat) < m
      omega
    ·have g2 := cNgt har (a := ar.len B) (b := 0) h
     have hRE : R = .ok it := by rw [← hc, cEnd, if_pos (List.eq_nil_of_length_eq_zero (by omega))]
     rw [hRE] at hk
     have hk : k [.a it.row, .s (.v (.int .i64 0))] := hk
     rw [hrw] at hk
     conv => cbv
     exact hk
   have g := cNeq har (a := ar.len X) (b := 0) h
   cases S with
   | nil => exact absurd hXl (by rw [List.length_nil]; omega)
   | cons o S =>
   have hSl : S.length ≤ 2 ^ 30 := by have := held_le (o :: S); rw [List.length_cons] at this; omega
   obtain ⟨I1, hI1⟩ : ∃ x, x = rowsOf o.its := ⟨_, rfl⟩
   obtain ⟨BH, hBH⟩ : ∃ x, x = o.bh.map b8 := ⟨_, rfl⟩
   obtain ⟨sb2, hsb2⟩ : ∃ x, x = o.sb := ⟨_, rfl⟩
   have hrowX : o.row = [.c (.ow I1 52 3 56), .c (.sl BH sb2)] := by rw [hI1, hBH, hsb2]; rfl
   have hI1n : I1.length = o.its.length := by rw [hI1, rowsOf_length]
   have hI1l : ar.nat (ar.len I1) = I1.length := by rw [lenIs har]; exact natOf har rfl
   have hcu := held_cons o S
   have hlu := left_cons b o S
   have hbnd : ∀ r : List PS, rlen r = 3 → (I1.length + 1) * 56 ≤ 140737488355328 ∧ ∀ y ∈ [r], rlen y = 3 := fun r hr => by
    refine ⟨by omega, fun y hy => ?_⟩
    rw [List.mem_singleton] at hy; subst hy; exact hr
   have hitl : rlen [PS.c (.v (.bool l)), .c (.sl D sdd), .c (.sl I ss)] = 3 := rfl
   have hsI : ∀ r : List PS, (0 : Int) ≤ ar.len I1 ∧ ar.len I1 < ((ar.app I1 [r]).length : Int) := fun r => by
    rw [lenIs har, appIs har, List.length_append, List.length_singleton]; omega
   have hsI2 : ∀ r : List PS, ar.nat (ar.len I1) < (ar.app I1 [r]).length ∧ rlen [PS.c (.v (.bool l)), .c (.sl D sdd), .c (.sl I ss)] = 3 := fun r => by
    rw [hI1l, appIs har, List.length_append, List.length_singleton]; exact ⟨by omega, rfl⟩
   obtain ⟨o2, ho2⟩ : ∃ o2 : Opn, o2 = ⟨o.its ++ [it], o.bh, o.sb⟩ := ⟨_, rfl⟩
   have hI2 : rowsOf o2.its = I1 ++ [[.c (.v (.bool l)), .c (.sl D sdd), .c (.sl I ss)]] := by rw [ho2, hI1, rowsOf_append, rowsOf, rowsOf, hrw]
   have hIA : ∀ r : List PS, ar.setx (ar.app I1 [r]) (ar.nat (ar.len I1)) [.c (.v (.bool l)), .c (.sl D sdd), .c (.sl I ss)] = rowsOf o2.its := fun r => by
    rw [hI2, hI1l, setxIs har, appIs har, List.set_append_right _ _ (Nat.le_refl _), Nat.sub_self]; rfl
   have hIB : ar.app I1 [[.c (.v (.bool l)), .c (.sl D sdd), .c (.sl I ss)]] = rowsOf o2.its := by rw [hI2, appIs har]
   have ho2r : ∀ J, J = rowsOf o2.its → o2.row = [.c (.ow J 52 3 56), .c (.sl BH sb2)] := fun J hJ => by rw [hJ, hBH, hsb2, ho2]; rfl
   have hcu2 : held (o2 :: S) = held (o :: S) + 1 := by rw [held_cons, held_cons, ho2, List.length_append, List.length_singleton]; omega
   have hlu2 : left b (o2 :: S) = left b (o :: S) := by rw [left_cons, left_cons, ho2]
   have hcW : cWithin o2.its o2.bh S b = R := by rw [← hc, cEnd_cons, ho2]
   have hlu3 := left_cons b o2 S
   have hcu3 := held_cons o2 S
   have hoo := hS o (by simp)
   have hS2 : ∀ o' ∈ o2 :: S, o'.ok := fun o' ho' => by
    rcases List.mem_cons.1 ho' with rfl | ho'
    ·rw [ho2]; exact hoo
    ·exact hS o' (by simp [ho'])
   have hbh2 : o2.bh = o.bh := by rw [ho2]
   rw [List.length_cons] at hm
   conv => cbv
   refine ⟨Bool, fun c => ⟨mk 105 [(0, .s (.p (.sl B sb))), (2, .s (.ptr 0 0)), (3, .s (.lit .i64 0)), (4, .s (.own 2)), (5, .s (.ptr 1 0)), (45, .s (.bl c))], [.box [.c (.bl false), .c .nil, .c .nil], .box [.c (.p (.v (.bool l))), .c (.p (.sl D sdd)), .c (.p (.sl I ss))], .nest X 113 2 48 none]⟩, ?_, fun c => ?_⟩
   ·conv => cbv
    refine ⟨⟨false, ?_⟩, true, ?_⟩
    ·conv => cbv
     simp
    ·conv => cbv
     simp
   ·cases c with
    | true =>
     conv => cbv
     refine ⟨by rw [har]; kernel_rfl, fun _ => dqB har hX hSl, _, dqGet har hX hSl hrowX, ?_⟩
     conv => cbv
     intro w
     conv => cbv
     refine ⟨fun _ => hbnd _ rfl, ?_⟩
     conv => cbv
     refine ⟨fun _ => dqB2 har hX hSl _, _, dqGet2 har hX hSl _, ?_⟩
     conv => cbv
     intro w2
     conv => cbv
     refine ⟨fun _ => hsI _, fun _ => hsI2 _, ?_⟩
     conv => cbv
     refine ⟨[.settle 2], _, rfl, ?_⟩
     obtain ⟨J, hJ⟩ : ∃ J, ar.setx (ar.app I1 [[PS.c (.v (.bool false)), .c (.sl [] []), .c (.sl [] [])]]) (ar.nat (ar.len I1)) [.c (.v (.bool l)), .c (.sl D sdd), .c (.sl I ss)] = J := ⟨_, rfl⟩
     have hJ2 : J = rowsOf o2.its := by rw [← hJ]; exact hIA _
     obtain ⟨X2, hX2⟩ : ∃ x, ar.setx (ar.setx (ar.setx X (ar.nat (ar.ib .sub .i64 (ar.len X) 1)) [.c (.v w), .c (.sl BH sb2)]) (ar.nat (ar.ib .sub .i64 (ar.len X) 1)) [.c (.v w2), .c (.sl BH sb2)]) (ar.nat (ar.ib .sub .i64 (ar.len X) 1)) [.c (.ow J 52 3 56), .c (.sl BH sb2)] = x := ⟨_, rfl⟩
     have hX2r : X2 = rowsS (o2 :: S) := by rw [← hX2]; exact dqPut har hX hSl (ho2r J hJ2)
     have hr2 := ho2r J hJ2
     conv at hJ => lhs; cbv
     conv at hX2 => lhs; cbv
     conv => cbv
     rw [hJ, hX2]
     refine ⟨fun h => ?_, fun h => ?_⟩
     ·have g2 := cGt har (a := ar.len B) (b := 0) h
      have hbne : b ≠ [] := fun e => by rw [e, List.length_nil] at hBl; omega
      have hcI : cItem (o2 :: S) b = R := by rw [← hcW, cWithin_item _ _ hbne]
      conv => cbv
      refine ⟨⟨⟨1, B, sb, X2, l, D, sdd, I, ss, 0, 6 * left b (o2 :: S) + 2 * (o2 :: S).length + 1⟩, .inr (.inl ⟨rfl, o2 :: S, b, hB, bok, hsb, hX2r, hS2, by omega, hcI, rfl⟩)⟩, rfl, ?_, ?_⟩
      ·conv => cbv
       simp
      ·show (6 * left b (o2 :: S) + 2 * (o2 :: S).length + 1 : Nat) < m
       rw [hm, List.length_cons]; omega
     ·have g2 := cNgt har (a := ar.len B) (b := 0) h
      have hbe : b = [] := List.eq_nil_of_length_eq_zero (by omega)
      have hcE : cEnd S (.lst o2.its) o2.bh = R := by rw [← hcW, hbe, cWithin_nil]
      have hlr : (It.lst o2.its).row = [.c (.v (.bool true)), .c (.sl [] []), .c (.sl J [])] := by rw [hJ2]; rfl
      have hA := left_eq o2.bh S
      have hBz : b.length = 0 := by rw [hbe]; rfl
      have hsub : BH = o2.bh.map b8 := by rw [hBH, ho2]
      conv => cbv
      refine ⟨fun _ => dqB har hX2r hSl, _, dqGet har hX2r hSl hr2, ?_⟩
      conv => cbv
      intro w3
      conv => cbv
      refine ⟨fun _ => dqB3 har hX2r hSl _ _, _, dqGet3 har hX2r hSl _, ?_⟩
      conv => cbv
      refine ⟨fun _ => dqB4 har hX2r hSl _ _, ?_⟩
      conv => cbv
      refine ⟨⟨⟨2, BH, sb2, ar.mid (ar.setx X2 (ar.nat (ar.ib .sub .i64 (ar.len X2) 1)) [.c (.v w3), .c (.sl BH sb2)]) 0 (ar.nat (ar.ib .sub .i64 (ar.len (ar.setx X2 (ar.nat (ar.ib .sub .i64 (ar.len X2) 1)) [.c (.v w3), .c (.sl BH sb2)])) 1)), true, [], [], J, [], 0, 6 * left o2.bh S + 2 * S.length + 2⟩, .inr (.inr (.inl ⟨rfl, S, o2.bh, .lst o2.its, hsub, (hS2 o2 (by simp)).1, by rw [hsb2]; exact hoo.2, dqPop har hX2r hSl _, fun o' ho' => hS2 o' (by simp [ho']), hlr, by omega, hcE, rfl⟩))⟩, rfl, ?_, ?_⟩
      ·conv => cbv
       simp
      ·show (6 * left o2.bh S + 2 * S.length + 2 : Nat) < m
       rw [hm]; omega
    | false =>
     conv => cbv
     refine ⟨by rw [har]; kernel_rfl, fun _ => dqB har hX hSl, _, dqGet har hX hSl hrowX, ?_⟩
     conv => cbv
     intro w
     conv => cbv
     refine ⟨fun _ => hbnd _ hitl, ?_⟩
     conv => cbv
     refine ⟨fun _ => dqB2 har hX hSl _, _, dqGet2 har hX hSl _, ?_⟩
     conv => cbv
     intro w2
     conv => cbv
     refine ⟨[.settle 2], _, rfl, ?_⟩
     obtain ⟨J, hJ⟩ : ∃ J, ar.app I1 [[PS.c (.v (.bool l)), .c (.sl D sdd), .c (.sl I ss)]] = J := ⟨_, rfl⟩
     have hJ2 : J = rowsOf o2.its := by rw [← hJ]; exact hIB
     obtain ⟨X2, hX2⟩ : ∃ x, ar.setx (ar.setx (ar.setx X (ar.nat (ar.ib .sub .i64 (ar.len X) 1)) [.c (.v w), .c (.sl BH sb2)]) (ar.nat (ar.ib .sub .i64 (ar.len X) 1)) [.c (.v w2), .c (.sl BH sb2)]) (ar.nat (ar.ib .sub .i64 (ar.len X) 1)) [.c (.ow J 52 3 56), .c (.sl BH sb2)] = x := ⟨_, rfl⟩
     have hX2r : X2 = rowsS (o2 :: S) := by rw [← hX2]; exact dqPut har hX hSl (ho2r J hJ2)
     have hr2 := ho2r J hJ2
     conv at hJ => lhs; cbv
     conv at hX2 => lhs; cbv
     conv => cbv
     rw [hJ, hX2]
     refine ⟨fun h => ?_, fun h => ?_⟩
     ·have g2 := cGt har (a := ar.len B) (b := 0) h
      have hbne : b ≠ [] := fun e => by rw [e, List.length_nil] at hBl; omega
      have hcI : cItem (o2 :: S) b = R := by rw [← hcW, cWithin_item _ _ hbne]
      conv => cbv
      refine ⟨⟨⟨1, B, sb, X2, l, D, sdd, I, ss, 0, 6 * left b (o2 :: S) + 2 * (o2 :: S).length + 1⟩, .inr (.inl ⟨rfl, o2 :: S, b, hB, bok, hsb, hX2r, hS2, by omega, hcI, rfl⟩)⟩, rfl, ?_, ?_⟩
      ·conv => cbv
       simp
      ·show (6 * left b (o2 :: S) + 2 * (o2 :: S).length + 1 : Nat) < m
       rw [hm, List.length_cons]; omega
     ·have g2 := cNgt har (a := ar.len B) (b := 0) h
      have hbe : b = [] := List.eq_nil_of_length_eq_zero (by omega)
      have hcE : cEnd S (.lst o2.its) o2.bh = R := by rw [← hcW, hbe, cWithin_nil]
      have hlr : (It.lst o2.its).row = [.c (.v (.bool true)), .c (.sl [] []), .c (.sl J [])] := by rw [hJ2]; rfl
      have hA := left_eq o2.bh S
      have hBz : b.length = 0 := by rw [hbe]; rfl
      have hsub : BH = o2.bh.map b8 := by rw [hBH, ho2]
      conv => cbv
      refine ⟨fun _ => dqB har hX2r hSl, _, dqGet har hX2r hSl hr2, ?_⟩
      conv => cbv
      intro w3
      conv => cbv
      refine ⟨fun _ => dqB3 har hX2r hSl _ _, _, dqGet3 har hX2r hSl _, ?_⟩
      conv => cbv
      refine ⟨fun _ => dqB4 har hX2r hSl _ _, ?_⟩
      conv => cbv
      refine ⟨⟨⟨2, BH, sb2, ar.mid (ar.setx X2 (ar.nat (ar.ib .sub .i64 (ar.len X2) 1)) [.c (.v w3), .c (.sl BH sb2)]) 0 (ar.nat (ar.ib .sub .i64 (ar.len (ar.setx X2 (ar.nat (ar.ib .sub .i64 (ar.len X2) 1)) [.c (.v w3), .c (.sl BH sb2)])) 1)), true, [], [], J, [], 0, 6 * left o2.bh S + 2 * S.length + 2⟩, .inr (.inr (.inl ⟨rfl, S, o2.bh, .lst o2.its, hsub, (hS2 o2 (by simp)).1, by rw [hsb2]; exact hoo.2, dqPop har hX2r hSl _, fun o' ho' => hS2 o' (by simp [ho']), hlr, by omega, hcE, rfl⟩))⟩, rfl, ?_, ?_⟩
      ·conv => cbv
       simp
      ·show (6 * left o2.bh S + 2 * S.length + 2 : Nat) < m
       rw [hm]; omega
  ·dsimp only at h1 hB bok hsb hX hS hcnt hc hm
   subst h1
   have hcu := held_cons o S
   have hlu := left_cons b o S
   have hcW := hc
   have hbl : b.length ≤ 16777216 := by omega
   have hBl : ar.len B = (b.length : Int) := by rw [lenIs har, hB, List.length_map]
   have hSl : S.length ≤ 2 ^ 30 := by have := held_le (o :: S); rw [List.length_cons] at this; omega
   obtain ⟨I1, hI1⟩ : ∃ x, x = rowsOf o.its := ⟨_, rfl⟩
   obtain ⟨BH, hBH⟩ : ∃ x, x = o.bh.map b8 := ⟨_, rfl⟩
   obtain ⟨sb2, hsb2⟩ : ∃ x, x = o.sb := ⟨_, rfl⟩
   have hrowX : o.row = [.c (.ow I1 52 3 56), .c (.sl BH sb2)] := by rw [hI1, hBH, hsb2]; rfl
   have hoo := hS o (by simp)
   conv => cbv
   refine ⟨fun h => ?_, fun h => ?_⟩
   ·have g2 := cGt har (a := ar.len B) (b := 0) h
    have hbne : b ≠ [] := fun e => by rw [e, List.length_nil] at hBl; omega
    have hcI : cItem (o :: S) b = R := by rw [← hcW, cWithin_item _ _ hbne]
    conv => cbv
    refine ⟨⟨⟨1, B, sb, X, l, D, sdd, I, ss, 0, 6 * left b (o :: S) + 2 * (o :: S).length + 1⟩, .inr (.inl ⟨rfl, o :: S, b, hB, bok, hsb, hX, hS, by omega, hcI, rfl⟩)⟩, rfl, ?_, ?_⟩
    ·conv => cbv
     simp
    ·show (6 * left b (o :: S) + 2 * (o :: S).length + 1 : Nat) < m
     rw [hm, List.length_cons]; omega
   ·have g2 := cNgt har (a := ar.len B) (b := 0) h
    have hbe : b = [] := List.eq_nil_of_length_eq_zero (by omega)
    have hcE : cEnd S (.lst o.its) o.bh = R := by rw [← hcW, hbe, cWithin_nil]
    have hlr : (It.lst o.its).row = [.c (.v (.bool true)), .c (.sl [] []), .c (.sl I1 [])] := by rw [hI1]; rfl
    have hA := left_eq o.bh S
    have hBz : b.length = 0 := by rw [hbe]; rfl
    have hsub : BH = o.bh.map b8 := by rw [hBH]
    conv => cbv
    refine ⟨fun _ => dqB har hX hSl, _, dqGet har hX hSl hrowX, ?_⟩
    conv => cbv
    intro w3
    conv => cbv
    refine ⟨fun _ => dqB3 har hX hSl _ _, _, dqGet3 har hX hSl _, ?_⟩
    conv => cbv
    refine ⟨fun _ => dqB4 har hX hSl _ _, ?_⟩
    conv => cbv
    refine ⟨⟨⟨2, BH, sb2, ar.mid (ar.setx X (ar.nat (ar.ib .sub .i64 (ar.len X) 1)) [.c (.v w3), .c (.sl BH sb2)]) 0 (ar.nat (ar.ib .sub .i64 (ar.len (ar.setx X (ar.nat (ar.ib .sub .i64 (ar.len X) 1)) [.c (.v w3), .c (.sl BH sb2)])) 1)), true, [], [], I1, [], 0, 6 * left o.bh S + 2 * S.length + 2⟩, .inr (.inr (.inl ⟨rfl, S, o.bh, .lst o.its, hsub, (hS o (by simp)).1, by rw [hsb2]; exact hoo.2, dqPop har hX hSl _, fun o' ho' => hS o' (by simp [ho']), hlr, by omega, hcE, rfl⟩))⟩, rfl, ?_, ?_⟩
    ·conv => cbv
     simp
    ·show (6 * left o.bh S + 2 * S.length + 2 : Nat) < m
     rw [hm]; omega
end Go.Eng
