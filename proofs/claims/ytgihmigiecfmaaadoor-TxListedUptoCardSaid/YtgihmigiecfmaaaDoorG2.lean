import Derived.Test.YtgihmigiecfmaaaDoorEA
namespace Go.Eng
open Go Go.Proofs
set_option maxRecDepth 100000
set_option maxHeartbeats 16000000
set_option linter.unusedVariables false
structure TQ where
 p : Nat
 pi : Int
 ch : Int
 no : Int
 pr : List Value
 ti : List Value
 ca : List Value
 ga : Int
 cr : Bool
 to : List Value
 va : List Value
 D : List (List PS)
 A : List (List PS)
 bc : List Value
 B : List (List PS)
 U : List (List PS)
 v : List Value
 r : List Value
 s : List Value
structure TQ.rep (q : TQ) (u : Tx) : Prop where
 ch : q.ch = u.ch
 no : q.no = u.no
 pr : q.pr = w4 u.pr
 ti : q.ti = w4 u.ti
 ca : q.ca = w4 u.ca
 ga : q.ga = u.ga
 cr : q.cr = u.cr
 to : q.to = u8s u.to
 va : q.va = w4 u.va
 D : q.D = u.d.map b8'
 sd : u.sd = []
 A : q.A = u.ac.map Ent.row
 sa : u.sac = []
 bc : q.bc = w4 u.bc
 B : q.B = u.bl.map key
 sb : u.sbl = []
 U : q.U = u.au.map Au.row
 su : u.sau = []
 v : q.v = w4 u.v
 r : q.r = w4 u.r
 s : q.s = w4 u.s
theorem TQ.rep.row {q : TQ} {u : Tx} (h : q.rep u) : u.row = txRow u.ty q.ch q.no q.pr q.ti q.ca q.ga q.cr q.to q.va q.D [] q.A [] q.bc q.B [] q.U [] q.v q.r q.s := by
 unfold Tx.row
 rw [h.ch, h.no, h.pr, h.ti, h.ca, h.ga, h.cr, h.to, h.va, h.D, h.sd, h.A, h.sa, h.bc, h.B, h.sb, h.U, h.su, h.v, h.r, h.s]
structure RowIs (u : Tx) (r : List PS) : Prop where
 h : u.row = r
def txK (R : Except Int Tx) (k : List PR → Prop) : Prop :=
 match R with
 | .ok u => ∀ (ty ch no : Int) (pr ti ca : List Value) (ga : Int) (cr : Bool) (to va : List Value) (D sd A sa : List (List PS)) (bc : List Value) (B sb U su : List (List PS)) (v r s : List Value), RowIs u (txRow ty ch no pr ti ca ga cr to va D sd A sa bc B sb U su v r s) → k [.a (txRow ty ch no pr ti ca ga cr to va D sd A sa bc B sb U su v r s), .s (.v (.int .i64 0))]
 | .error e => ∀ (ty ch no : Int) (pr ti ca : List Value) (ga : Int) (cr : Bool) (to va : List Value) (D sd A sa : List (List PS)) (bc : List Value) (B sb U su : List (List PS)) (v r s : List Value), k [.a (txRow ty ch no pr ti ca ga cr to va D sd A sa bc B sb U su v r s), .s (.v (.int .i64 e))]
def endD (R : Except Int Tx) : Except Int Tx := match R with
 | .error e => .error e
 | .ok u => endTx u
def tqGood (ty : Int) (n : Nat) (its : List It) (R : Except Int Tx) (q : TQ) : Prop :=
 q.p ≤ (txFs ty).length ∧ q.pi = q.p ∧ ∃ u : Tx, u.ok ∧ u.lim n ∧ u.ty = ty ∧ q.rep u ∧ ((11 : Int) ∉ (txFs ty).take q.p → u.bl = []) ∧ endD (decF u ((txFs ty).drop q.p) (its.drop q.p)) = R
def resRow : List Seg := [.c (.lit .i64 0), .c (.lit .u64 0), .c (.lit .u64 0), .r 4 [.int .u64 0, .int .u64 0, .int .u64 0, .int .u64 0], .r 4 [.int .u64 0, .int .u64 0, .int .u64 0, .int .u64 0], .r 4 [.int .u64 0, .int .u64 0, .int .u64 0, .int .u64 0], .c (.lit .u64 0), .c (.bl false), .r 20 [.int .u8 0, .int .u8 0, .int .u8 0, .int .u8 0, .int .u8 0, .int .u8 0, .int .u8 0, .int .u8 0, .int .u8 0, .int .u8 0, .int .u8 0, .int .u8 0, .int .u8 0, .int .u8 0, .int .u8 0, .int .u8 0, .int .u8 0, .int .u8 0, .int .u8 0, .int .u8 0], .r 4 [.int .u64 0, .int .u64 0, .int .u64 0, .int .u64 0], .c .nil, .c .nil, .r 4 [.int .u64 0, .int .u64 0, .int .u64 0, .int .u64 0], .c .nil, .c .nil, .r 4 [.int .u64 0, .int .u64 0, .int .u64 0, .int .u64 0], .r 4 [.int .u64 0, .int .u64 0, .int .u64 0, .int .u64 0], .r 4 [.int .u64 0, .int .u64 0, .int .u64 0, .int .u64 0]]
def tqSeg (ty : Int) (q : TQ) : List Seg := [.c (.p (.v (.int .i64 ty))), .c (.p (.v (.int .u64 q.ch))), .c (.p (.v (.int .u64 q.no))), .r 4 q.pr, .r 4 q.ti, .r 4 q.ca, .c (.p (.v (.int .u64 q.ga))), .c (.p (.v (.bool q.cr))), .r 20 q.to, .r 4 q.va, .c (.p (.sl q.D [])), .c (.p (.sl q.A [])), .r 4 q.bc, .c (.own 3), .c (.p (.sl q.U [])), .r 4 q.v, .r 4 q.r, .r 4 q.s]
def tqSt (ty : Int) (F : List (List PS)) (a : Bool) (b1 b2 c1 c2 : List (List PS)) (n : Int) (q : TQ) : St :=
 ⟨mk 87 [(2, .s (.ptr 0 0)), (3, .s (.lit .i64 0)), (4, .s (.ptr 1 0)), (5, pint ty), (8, .s (.ptr 2 0)), (10, .s (.p (.sl F []))), (50, .s (.p (.sl F []))), (51, pint n), (52, pint q.pi)],
  [.box resRow, .box (tqSeg ty q), .box [.c (.p (.v (.bool a))), .c (.p (.sl b1 b2)), .c (.p (.sl c1 c2))], .arr q.B 45 32 32 true]⟩
def tq0 : TQ := ⟨0, 0, 0, 0, [.int .u64 0, .int .u64 0, .int .u64 0, .int .u64 0], [.int .u64 0, .int .u64 0, .int .u64 0, .int .u64 0], [.int .u64 0, .int .u64 0, .int .u64 0, .int .u64 0], 0, false, [.int .u8 0, .int .u8 0, .int .u8 0, .int .u8 0, .int .u8 0, .int .u8 0, .int .u8 0, .int .u8 0, .int .u8 0, .int .u8 0, .int .u8 0, .int .u8 0, .int .u8 0, .int .u8 0, .int .u8 0, .int .u8 0, .int .u8 0, .int .u8 0, .int .u8 0, .int .u8 0], [.int .u64 0, .int .u64 0, .int .u64 0, .int .u64 0], [], [], [.int .u64 0, .int .u64 0, .int .u64 0, .int .u64 0], [], [], [.int .u64 0, .int .u64 0, .int .u64 0, .int .u64 0], [.int .u64 0, .int .u64 0, .int .u64 0, .int .u64 0], [.int .u64 0, .int .u64 0, .int .u64 0, .int .u64 0]⟩
theorem tq0_rep (ty : Int) : tq0.rep (zeroTx ty) := ⟨rfl, rfl, w4_zero.symm, w4_zero.symm, w4_zero.symm, rfl, rfl, rfl, w4_zero.symm, rfl, rfl, rfl, rfl, w4_zero.symm, rfl, rfl, rfl, rfl, w4_zero.symm, w4_zero.symm, w4_zero.symm⟩
theorem zero_ok {ty : Int} (h : 0 ≤ ty ∧ ty < 5) : (zeroTx ty).ok := by
 have hz : (0 : Nat) < M256 := by decide
 have h64 : (0 : Nat) < 18446744073709551616 := by decide
 have h20 : bytesOk z20s := fun x hx => by rw [z20s, List.mem_replicate] at hx; omega
 exact ⟨by show _ ≤ ty ∧ ty ≤ _; omega, h64, h64, hz, hz, hz, h64, rfl, hz, (by intro x hx; cases hx), hz, (by intro x hx; cases hx), (by intro x hx; cases hx), hz, hz, hz, h20, (by intro x hx; cases hx)⟩
theorem zero_lim (ty : Int) (n : Nat) : (zeroTx ty).lim n := ⟨Nat.zero_le _, Nat.zero_le _, Nat.zero_le _, Nat.zero_le _⟩
theorem kindR_facts {c : Int} {b : List Int} (h : bytesOk (c :: b)) : (0 ≤ (kindR (c :: b)).1 ∧ (kindR (c :: b)).1 < 5) ∧ bytesOk (kindR (c :: b)).2.1 ∧ (kindR (c :: b)).2.1.length ≤ (c :: b).length := by
 have hc := h c (by simp)
 have hb : bytesOk b := fun x hx => h x (by simp [hx])
 have h0 : bytesOk [] := fun x hx => by cases hx
 simp only [kindR]
 split
 ·exact ⟨⟨by simp, by simp⟩, h, Nat.le_refl _⟩
 ·split
  ·exact ⟨⟨by simp, by simp⟩, h0, Nat.zero_le _⟩
  ·split
   ·exact ⟨⟨by simp, by simp⟩, h0, Nat.zero_le _⟩
   ·rename_i h3
    have h3 : c ≠ 0 ∧ ¬ (5 ≤ c) := not_or.1 h3
    exact ⟨⟨hc.1, by show c < 5; omega⟩, hb, Nat.le_succ _⟩
theorem pE9 (u : Tx) (x : It) : ∃ (zv : List (List PS)) (ev : Int), parseR (parseOf x) = [.s (.sl zv []), .s (.v (.int .i64 ev))] ∧ (ev ≠ 0 → readF u 9 x = .error ev) ∧ (ev = 0 → ∃ es, readF u 9 x = .ok { u with ac := es, sac := [] } ∧ zv = es.map Ent.row) := by
 have h := rF9 u x
 cases hp : parseOf x with
 | none => rw [hp] at h; exact ⟨[], 140, rfl, fun _ => h, fun h => absurd h (by decide)⟩
 | some es => rw [hp] at h; exact ⟨_, 0, rfl, fun h => absurd rfl h, fun _ => ⟨es, h, rfl⟩⟩
theorem pE12 (u : Tx) (x : It) : ∃ (zv : List (List PS)) (ev : Int), parseAR (parseAOf x) = [.s (.sl zv []), .s (.v (.int .i64 ev))] ∧ (ev ≠ 0 → readF u 12 x = .error ev) ∧ (ev = 0 → ∃ es, readF u 12 x = .ok { u with au := es, sau := [] } ∧ zv = es.map Au.row) := by
 have h := rF12 u x
 cases hp : parseAOf x with
 | none => rw [hp] at h; exact ⟨[], 141, rfl, fun _ => h, fun h => absurd h (by decide)⟩
 | some es => rw [hp] at h; exact ⟨_, 0, rfl, fun h => absurd rfl h, fun _ => ⟨es, h, rfl⟩⟩
theorem valsOf_b8x (d : List Int) : valsOf (d.map b8) = u8s d := by rw [valsOf, List.map_map]; rfl
theorem cpw20 {TO : List Value} {d : List Int} (hT : TO.length = 20) (hd : d.length = 20) : arS.cpw TO 0 (d.map b8) = u8s d := by
 have hu : (u8s d).length = 20 := by rw [u8s, List.length_map, hd]
 show TO.take 0 ++ ((valsOf (d.map b8)).take (TO.length - 0) ++ TO.drop (0 + min (d.map b8).length (TO.length - 0))) = u8s d
 rw [valsOf_b8x, List.take_zero, List.nil_append, List.take_of_length_le (by omega), List.drop_of_length_le (by rw [List.length_map]; omega), List.append_nil]
theorem dL_err : ∀ (f w : Nat) (p : List Int) (e : Int), p.length ≤ f → dL f w p = .error e → e ≠ 0
 | f, w, [], e, _, h => by
  have h2 : dL f w [] = .ok [] := by cases f <;> rfl
  rw [h2] at h; cases h
 | 0, _, _ :: _, _, hl, _ => by rw [List.length_cons] at hl; omega
 | f + 1, w, c :: p, e, hl, h => by
  rw [List.length_cons] at hl
  simp only [dL] at h
  split at h
  ·rename_i he
   obtain ⟨h1, _, h3⟩ := cutR_len he
   rw [List.length_cons] at h1 h3
   split at h
   ·rename_i hL
    have h3 := h3 hL
    split at h
    ·cases h; decide
    ·split at h
     ·rename_i e2 he2; cases h; exact dL_err f _ _ _ (by omega) he2
     ·split at h
      ·rename_i e2 he2; cases h; exact dL_err f _ _ _ (by omega) he2
      ·cases h
   ·split at h
    ·rename_i e2 he2; cases h; exact dL_err f _ _ _ (by omega) he2
    ·cases h
  ·rename_i he; cases h; exact he
theorem decR_err {d : List Int} {e : Int} (h : decR d = .error e) : e ≠ 0 := by
 unfold decR at h
 split at h
 ·cases h; decide
 ·unfold cItem at h
  split at h
  ·split at h
   ·split at h
    ·cases h; decide
    ·unfold cWithin dec at h
     split at h
     ·rename_i e2 he2; cases h; exact dL_err _ _ _ _ (Nat.le_refl _) he2
     ·simp only [cEnd] at h
      split at h
      ·cases h
      ·cases h; decide
   ·simp only [cEnd] at h
    split at h
    ·cases h
    ·cases h; decide
  ·rename_i he; cases h; exact he
theorem txdecode_sound : Sound Tryd.prog 23 fun args k => ∃ (c : Int) (b : List Int) (sd : List (List PS)), args = [.s (.sl ((c :: b).map b8) sd)] ∧ bytesOk (c :: b) ∧ b.length < 2 ^ 25 ∧ (∀ z ∈ sd, rlen z = 1) ∧ txK (decTx (c :: b)) k := by
 refine Sound.of_bodyI 3 tt_ok ent_ok Tryd.func23 rfl ?_
 rintro ar har Γ hΓ args k ⟨c, b, sd, hargs, hok, hl, hsd, hk⟩
 obtain ⟨B0, hB0⟩ : ∃ D, D = (c :: b).map b8 := ⟨_, rfl⟩
 obtain ⟨R, hR⟩ : ∃ R, R = decTx (c :: b) := ⟨_, rfl⟩
 obtain ⟨ty, hty⟩ : ∃ x, x = (kindR (c :: b)).1 := ⟨_, rfl⟩
 obtain ⟨bb, hbb⟩ : ∃ x, x = (kindR (c :: b)).2.1 := ⟨_, rfl⟩
 obtain ⟨e0, he0⟩ : ∃ x, x = (kindR (c :: b)).2.2 := ⟨_, rfl⟩
 obtain ⟨BB, hBB⟩ : ∃ x, x = bb.map b8 := ⟨_, rfl⟩
 have hkf := kindR_facts hok
 rw [← hty, ← hbb] at hkf
 obtain ⟨hty0, bbok, bblen⟩ := hkf
 rw [List.length_cons] at bblen
 rw [← hB0] at hargs
 rw [← hR] at hk
 have hbad : ∀ (e : Int), R = .error e → ∀ (ty ch no : Int) (pr ti ca : List Value) (ga : Int) (cr : Bool) (to va : List Value) (D sd A sa : List (List PS)) (bc : List Value) (B sb U su : List (List PS)) (v r s : List Value), k [.a (txRow ty ch no pr ti ca ga cr to va D sd A sa bc B sb U su v r s), .s (.v (.int .i64 e))] := fun e he => by rw [he] at hk; exact hk
 have hgood : ∀ u : Tx, R = .ok u → k [.a u.row, .s (.v (.int .i64 0))] := fun u hu => by rw [hu] at hk; exact hk _ _ _ _ _ _ _ _ _ _ _ _ _ _ _ _ _ _ _ _ _ _ ⟨rfl⟩
 have callK : ∀ (Γ : Ctx) (d' : Nat) (k : List PR → Prop) (R : Prop), Γ = ctx Tryd.prog d' → (∀ s : List (List PS), (∀ z ∈ s, rlen z = 1) → k [.s (.v (.int .i64 ty)), .s (.sl BB s), .s (.v (.int .i64 e0))]) → Γ.g 43 [.s (.sl B0 sd)] k ∨ R := fun Γ d' k R hΓ hk => call_by hΓ kind15_sound ⟨c, b, sd, by rw [hB0], hok, by omega, hsd, by rw [← hty, ← hbb, ← he0, ← hBB]; exact hk⟩
 obtain ⟨RD, hRD⟩ : ∃ x, x = decR bb := ⟨_, rfl⟩
 have callD : ∀ (s : List (List PS)) (Γ : Ctx) (d' : Nat) (k : List PR → Prop) (R : Prop), Γ = ctx Tryd.prog d' → (∀ z ∈ s, rlen z = 1) → decK RD k → Γ.g 44 [.s (.sl BB s)] k ∨ R := fun s Γ d' k R hΓ hs hk => call_by hΓ decode_sound ⟨bb, s, by rw [hBB], bbok, by omega, hs, by rw [← hRD]; exact hk⟩
 have callR : ∀ (Γ : Ctx) (d' : Nat) (k : List PR → Prop) (R : Prop), Γ = ctx Tryd.prog d' → k [.s (.sl ((txFs ty).map irow) [])] → Γ.g 21 [.s (.v (.int .i64 ty))] k ∨ R := fun Γ d' k R hΓ hk => call_by hΓ rowOf_sound ⟨ty, rfl, hk⟩
 clear hk
 subst hargs
 conv => cbv
 refine callK _ _ _ _ hΓ fun s0 hs0 => ?_
 conv => cbv
 refine ⟨fun h => ?_, fun h => ?_⟩
 ·have g := cNe har (a := e0) (b := 0) h
  have hRe : R = .error e0 := by rw [hR, decTx, if_neg (by rw [← he0]; exact g), ← he0]
  conv => cbv
  exact hbad e0 hRe _ _ _ _ _ _ _ _ _ _ _ _ _ _ _ _ _ _ _ _ _ _
 have g := cNne har (a := e0) (b := 0) h
 have hR1 : R = match decR bb with | .error e => .error e | .ok it => fieldsTx ty it := by rw [hR, decTx, if_pos (by rw [← he0]; exact g), ← hbb, ← hty]; rfl
 conv => cbv
 refine callD s0 _ _ _ _ hΓ hs0 ?_
 cases hRDc : RD with
 | error e =>
  rw [← hRD, hRDc] at hR1
  have g1 : e ≠ 0 := decR_err (hRD.symm.trans hRDc)
  conv => cbv
  refine ⟨fun h => ?_, fun h => ?_⟩
  ·conv => cbv
   exact hbad e hR1 _ _ _ _ _ _ _ _ _ _ _ _ _ _ _ _ _ _ _ _ _ _
  ·exact absurd (cNne har (a := e) (b := 0) h) g1
 | ok it =>
  rw [← hRD, hRDc] at hR1
  have hR1 : R = fieldsTx ty it := hR1
  have hrd := decR_read bbok (hRD.symm.trans hRDc)
  have hby : it.byt := hrd.b.1
  have hbk : it.bulk ≤ 2 ^ 26 := by have := hrd.n; simp only [bulks] at this; omega
  obtain ⟨a, ⟨b1, b2⟩, ⟨c1, c2⟩, hA⟩ := row3 it
  have hd : ∀ κ : List PR → Prop, κ [.a [.c (.v (.bool a)), .c (.sl b1 b2), .c (.sl c1 c2)], .s (.v (.int .i64 0))] → decK (.ok it) κ := fun κ h => by show κ _; rw [hA]; exact h
  have nN : (0 : Int) ≠ 0 → False := fun h => h rfl
  obtain ⟨ew, hew⟩ : ∃ x : Int, x = if it.l = true then 0 else 75 := ⟨_, rfl⟩
  have callW : ∀ (Γ : Ctx) (d' : Nat) (k : List PR → Prop) (R : Prop), Γ = ctx Tryd.prog d' → k [.s (.v (.int .i64 ew))] → Γ.g 45 [.a [.c (.v (.bool a)), .c (.sl b1 b2), .c (.sl c1 c2)], .s (.v (.bool true))] k ∨ R := fun Γ d' k R hΓ hk => call_by hΓ wanted_sound ⟨it, true, by rw [hA], by rw [← hew]; exact hk⟩
  obtain ⟨its, hits⟩ : ∃ x, x = it.its := ⟨_, rfl⟩
  have hc1 : c1 = rowsOf its := by
   cases it
   rw [It.row] at hA
   rw [hits]
   injection hA with _ h; injection h with _ h; injection h with h _; injection h with h; injection h with h; exact h.symm
  have hcl : ar.len c1 = (its.length : Int) := by rw [lenIs har, hc1, rowsOf_length]
  have hF : ∃ F, F = (txFs ty).map irow := ⟨_, rfl⟩
  obtain ⟨F, hF⟩ := hF
  rw [← hF] at callR
  have hFl : ar.len F = ((txFs ty).length : Int) := by rw [lenIs har, hF, List.length_map]
  have hitsb : byts its := by rw [hits]; cases it; exact hby.2
  have hitsk : bulks its ≤ 2 ^ 26 := by rw [hits]; cases it; simp only [It.bulk] at hbk; simp only [It.its]; omega
  refine hd _ ?_
  conv => cbv
  refine ⟨fun h => (nN (cNe har (a := (0 : Int)) (b := 0) h)).elim, fun _ => ?_⟩
  conv => cbv
  refine callW _ _ _ _ hΓ ?_
  conv => cbv
  refine ⟨fun h => ?_, fun h => ?_⟩
  ·have g2 := cNe har (a := ew) (b := 0) h
   have hl : ¬ it.l = true := fun e => g2 (by rw [hew, if_pos e])
   have hRe : R = .error ew := by rw [hR1, fieldsTx, if_neg hl, hew, if_neg hl]
   conv => cbv
   exact hbad ew hRe _ _ _ _ _ _ _ _ _ _ _ _ _ _ _ _ _ _ _ _ _ _
  have g2 := cNne har (a := ew) (b := 0) h
  have hl : it.l = true := by
   by_cases e : it.l = true
   ·exact e
   ·rw [hew, if_neg e] at g2; exact absurd g2 (by decide)
  rw [fieldsTx, if_pos hl, ← hits] at hR1
  conv => cbv
  refine callR _ _ _ _ hΓ ?_
  conv => cbv
  refine ⟨fun h => ?_, fun h => ?_⟩
  ·have g3 := cNe har (a := ar.len c1) (b := ar.len F) h
   have hRe : R = .error 151 := by rw [hR1, if_neg (by omega)]
   conv => cbv
   exact hbad 151 hRe _ _ _ _ _ _ _ _ _ _ _ _ _ _ _ _ _ _ _ _ _ _
  have g3 := cNne har (a := ar.len c1) (b := ar.len F) h
  rw [if_pos (by omega)] at hR1
  have hR1 : endD (decF (zeroTx ty) (txFs ty) its) = R := hR1.symm
  conv => cbv
  refine .inr ⟨{ q : TQ // tqGood ty (2 ^ 26) its R q }, fun q => tqSt ty F a b1 b2 c1 c2 (ar.len F) q.1, fun q => (txFs ty).length - q.1.p, [.cell 1 47 45], _, ⟨tq0, Nat.zero_le _, rfl, zeroTx ty, zero_ok hty0, zero_lim _ _, rfl, tq0_rep _, fun _ => rfl, hR1⟩, rfl, ?_, ?_⟩
  ·conv => cbv
   simp
  ·rintro ⟨⟨p, pi, ch, no, pr, ti, ca, ga, cr, to, va, D, A, bc, B, U, v, r, s⟩, hp, hpi, u, huo, hul, hut, hur, hu11, huR⟩
   dsimp only at hp hpi hu11 huR
   dsimp only
   conv => cbv
   refine ⟨fun h => ?_, fun h => ?_⟩
   ·have g := cLt har (b := ar.len F) h
    have hlt : p < (txFs ty).length := by omega
    obtain ⟨f, hf⟩ : ∃ x, (txFs ty)[p]? = some x := ⟨_, List.getElem?_eq_getElem hlt⟩
    obtain ⟨x, hx⟩ : ∃ x, its[p]? = some x := ⟨_, List.getElem?_eq_getElem (by omega)⟩
    have rf : F[pi.toNat]? = some [.c (.v (.int .i64 f))] := by rw [hF, hpi]; simp [hf, irow]
    obtain ⟨xa, ⟨y1, y2⟩, ⟨z1, z2⟩, hX⟩ := row3 x
    have rx : c1[pi.toNat]? = some [.c (.v (.bool xa)), .c (.sl y1 y2), .c (.sl z1 z2)] := by rw [hc1, hpi, Int.toNat_natCast, rowsOf_get hx, hX]
    have hxm : x ∈ its := List.mem_of_getElem? hx
    have hxb : x.byt := byts_mem hitsb hxm
    have hxk : x.bulk ≤ 2 ^ 26 := Nat.le_trans (bulk_mem hxm) hitsk
    have pi0 : (0 : Int) ≤ pi := by omega
    have hdf : (txFs ty).drop p = f :: (txFs ty).drop (p + 1) := by
     obtain ⟨hlt, e⟩ := List.getElem?_eq_some_iff.1 hf
     rw [← e, List.getElem_cons_drop]
    have hdx : its.drop p = x :: its.drop (p + 1) := by
     obtain ⟨hlt, e⟩ := List.getElem?_eq_some_iff.1 hx
     rw [← e, List.getElem_cons_drop]
    rw [hdf, hdx, decF] at huR
    have hbadF : ∀ e, readF u f x = .error e → R = .error e := fun e he => by rw [he] at huR; exact huR.symm
    have hnd : f ∉ (txFs ty).take p := txFs_new hty0 hf
    have hgoodF : ∀ (q' : TQ) (u' : Tx), readF u f x = .ok u' → q'.rep u' → q'.p = p + 1 → q'.pi = ar.ib .add .i64 pi 1 → tqGood ty (2 ^ 26) its R q' := fun q' u' hr' hq' h1 h2 => by
     rw [hr'] at huR
     refine ⟨by omega, by rw [h2, iSucc har hpi (by have := txFs_len ty; omega), h1], u', readF_ok huo hxb hr', readF_lim hul hxb hxk hr', by rw [readF_ty hr', hut], hq', fun h11 => ?_, by rw [h1]; exact huR⟩
     rw [h1, take_succ_get hf, List.mem_append, List.mem_singleton, not_or] at h11
     rw [readF_bl (fun e => h11.2 e.symm) hr']
     exact hu11 h11.1
    have callS : ∀ (z e : Int) (Γ : Ctx) (d' : Nat) (k : List PR → Prop) (R : Prop), Γ = ctx Tryd.prog d' → z = ((x.num 8).1 : Nat) → e = (x.num 8).2 → k [.s (.v (.int .u64 z)), .s (.v (.int .i64 e))] → Γ.g 82 [.a [.c (.v (.bool xa)), .c (.sl y1 y2), .c (.sl z1 z2)]] k ∨ R := fun z e Γ d' k R hΓ hz he hk => call_by hΓ getSmall_sound ⟨x, by rw [hX], hxb, by omega, by rw [← hz, ← he]; exact hk⟩
    have callN : ∀ (z : List Value) (e : Int) (Γ : Ctx) (d' : Nat) (k : List PR → Prop), Γ = ctx Tryd.prog d' → z = w4 (x.num 32).1 → e = (x.num 32).2 → k [.a [.r 4 z], .s (.v (.int .i64 e))] → Γ.g 73 [.a [.c (.v (.bool xa)), .c (.sl y1 y2), .c (.sl z1 z2)]] k := fun z e Γ d' k hΓ hz he hk => call_by' hΓ getNumber_sound ⟨x, by rw [hX], hxb, by omega, by unfold pw; rw [← hz, ← he]; exact hk⟩
    have callT : ∀ (P : List (List PS)) (e : Int) (Γ : Ctx) (d' : Nat) (k : List PR → Prop) (R : Prop), Γ = ctx Tryd.prog d' → P = x.getText.1.map b8 → e = x.getText.2 → k [.s (.sl P []), .s (.v (.int .i64 e))] → Γ.g 69 [.a [.c (.v (.bool xa)), .c (.sl y1 y2), .c (.sl z1 z2)]] k ∨ R := fun P e Γ d' k R hΓ hz he hk => call_by hΓ getText_sound ⟨x, by rw [hX], by omega, by rw [← hz, ← he]; exact hk⟩
    have callP : ∀ (P : List (List PS)) (e : Int) (Γ : Ctx) (d' : Nat) (k : List PR → Prop) (R : Prop), Γ = ctx Tryd.prog d' → parseR (parseOf x) = [.s (.sl P []), .s (.v (.int .i64 e))] → k [.s (.sl P []), .s (.v (.int .i64 e))] → Γ.g 70 [.a [.c (.v (.bool xa)), .c (.sl y1 y2), .c (.sl z1 z2)]] k ∨ R := fun P e Γ d' k R hΓ he hk => call_by hΓ parse_sound ⟨x, by rw [hX], by omega, by rw [he]; exact hk⟩
    have callA : ∀ (P : List (List PS)) (e : Int) (Γ : Ctx) (d' : Nat) (k : List PR → Prop) (R : Prop), Γ = ctx Tryd.prog d' → parseAR (parseAOf x) = [.s (.sl P []), .s (.v (.int .i64 e))] → k [.s (.sl P []), .s (.v (.int .i64 e))] → Γ.g 72 [.a [.c (.v (.bool xa)), .c (.sl y1 y2), .c (.sl z1 z2)]] k ∨ R := fun P e Γ d' k R hΓ he hk => call_by hΓ parseAuth_sound ⟨x, by rw [hX], hxb, by omega, by rw [he]; exact hk⟩
    have callX : ∀ (l : Bool) (e : Int) (Γ : Ctx) (d' : Nat) (k : List PR → Prop) (R : Prop), Γ = ctx Tryd.prog d' → e = (if x.l = l then 0 else 75) → k [.s (.v (.int .i64 e))] → Γ.g 45 [.a [.c (.v (.bool xa)), .c (.sl y1 y2), .c (.sl z1 z2)], .s (.v (.bool l))] k ∨ R := fun l e Γ d' k R hΓ he hk => call_by hΓ wanted_sound ⟨x, l, by rw [hX], by rw [← he]; exact hk⟩
    conv => cbv
    refine ⟨_, pi0, rf, rfl, ?_⟩
    conv => cbv
    refine ⟨_, pi0, rx, rfl, ?_⟩
    conv => cbv
    refine call_inN har hΓ Tryd.func46 rfl ?_
    intro Γ1 hΓ1 vs1
    conv => cbv
    refine ⟨fun h => ?_, fun h => ?_⟩
    ·have g0 := cEq har (a := f) (b := 0) h
     have hRF : readF u f x = onE (x.num 8).2 { u with ch := (x.num 8).1 } := by rw [g0]; exact rF0 u x
     obtain ⟨zv, hzv⟩ : ∃ z : Int, z = ((x.num 8).1 : Nat) := ⟨_, rfl⟩
     obtain ⟨ev, hev⟩ : ∃ z : Int, z = (x.num 8).2 := ⟨_, rfl⟩
     conv => cbv
     refine ⟨by rw [har]; kernel_rfl, ?_⟩
     refine call_inN har hΓ1 Tryd.func67 rfl ?_
     intro Γ2 hΓ2 vs2
     conv => cbv
     refine callS zv ev _ _ _ _ hΓ2 hzv hev ?_
     conv => cbv
     refine ⟨fun h => ?_, fun h => ?_⟩
     ·have g9 := cNe har (a := ev) (b := 0) h
      conv => cbv
      exact hbad ev (hbadF _ (by rw [hRF]; rw [← hev]; exact onE_err _ g9)) _ _ _ _ _ _ _ _ _ _ _ _ _ _ _ _ _ _ _ _ _ _
     ·have g9 := cNne har (a := ev) (b := 0) h
      conv => cbv
      refine ⟨⟨⟨p + 1, ar.ib .add .i64 pi 1, zv, no, pr, ti, ca, ga, cr, to, va, D, A, bc, B, U, v, r, s⟩, hgoodF _ ({ u with ch := (x.num 8).1 }) (by rw [hRF]; rw [← hev]; exact onE_fine _ g9) { hur with ch := hzv } rfl rfl⟩, ?_, ?_⟩
      ·conv => cbv
       simp
      ·show (txFs ty).length - (p + 1) < (txFs ty).length - p
       omega
    have g0 := cNeq har (a := f) (b := 0) h
    conv => cbv
    refine ⟨fun h => ?_, fun h => ?_⟩
    ·have g0 := cEq har (a := f) (b := 1) h
     have hRF : readF u f x = onE (x.num 8).2 { u with no := (x.num 8).1 } := by rw [g0]; exact rF1 u x
     obtain ⟨zv, hzv⟩ : ∃ z : Int, z = ((x.num 8).1 : Nat) := ⟨_, rfl⟩
     obtain ⟨ev, hev⟩ : ∃ z : Int, z = (x.num 8).2 := ⟨_, rfl⟩
     conv => cbv
     refine ⟨by rw [har]; kernel_rfl, ?_⟩
     refine call_inN har hΓ1 Tryd.func67 rfl ?_
     intro Γ2 hΓ2 vs2
     conv => cbv
     refine callS zv ev _ _ _ _ hΓ2 hzv hev ?_
     conv => cbv
     refine ⟨fun h => ?_, fun h => ?_⟩
     ·have g9 := cNe har (a := ev) (b := 0) h
      conv => cbv
      exact hbad ev (hbadF _ (by rw [hRF]; rw [← hev]; exact onE_err _ g9)) _ _ _ _ _ _ _ _ _ _ _ _ _ _ _ _ _ _ _ _ _ _
     ·have g9 := cNne har (a := ev) (b := 0) h
      conv => cbv
      refine ⟨⟨⟨p + 1, ar.ib .add .i64 pi 1, ch, zv, pr, ti, ca, ga, cr, to, va, D, A, bc, B, U, v, r, s⟩, hgoodF _ ({ u with no := (x.num 8).1 }) (by rw [hRF]; rw [← hev]; exact onE_fine _ g9) { hur with no := hzv } rfl rfl⟩, ?_, ?_⟩
      ·conv => cbv
       simp
      ·show (txFs ty).length - (p + 1) < (txFs ty).length - p
       omega
    have g1 := cNeq har (a := f) (b := 1) h
    conv => cbv
    refine ⟨fun h => ?_, fun h => ?_⟩
    ·have g0 := cEq har (a := f) (b := 5) h
     have hRF : readF u f x = onE (x.num 8).2 { u with ga := (x.num 8).1 } := by rw [g0]; exact rF5 u x
     obtain ⟨zv, hzv⟩ : ∃ z : Int, z = ((x.num 8).1 : Nat) := ⟨_, rfl⟩
     obtain ⟨ev, hev⟩ : ∃ z : Int, z = (x.num 8).2 := ⟨_, rfl⟩
     conv => cbv
     refine ⟨by rw [har]; kernel_rfl, ?_⟩
     refine call_inN har hΓ1 Tryd.func67 rfl ?_
     intro Γ2 hΓ2 vs2
     conv => cbv
     refine callS zv ev _ _ _ _ hΓ2 hzv hev ?_
     conv => cbv
     refine ⟨fun h => ?_, fun h => ?_⟩
     ·have g9 := cNe har (a := ev) (b := 0) h
      conv => cbv
      exact hbad ev (hbadF _ (by rw [hRF]; rw [← hev]; exact onE_err _ g9)) _ _ _ _ _ _ _ _ _ _ _ _ _ _ _ _ _ _ _ _ _ _
     ·have g9 := cNne har (a := ev) (b := 0) h
      conv => cbv
      refine ⟨⟨⟨p + 1, ar.ib .add .i64 pi 1, ch, no, pr, ti, ca, zv, cr, to, va, D, A, bc, B, U, v, r, s⟩, hgoodF _ ({ u with ga := (x.num 8).1 }) (by rw [hRF]; rw [← hev]; exact onE_fine _ g9) { hur with ga := hzv } rfl rfl⟩, ?_, ?_⟩
      ·conv => cbv
       simp
      ·show (txFs ty).length - (p + 1) < (txFs ty).length - p
       omega
    have g5 := cNeq har (a := f) (b := 5) h
    conv => cbv
    refine ⟨fun h => ?_, fun h => ?_⟩
    ·have g0 := cEq har (a := f) (b := 6) h
     have hRF : readF u f x = recvR u x := by rw [g0]; exact rF6 u x
     obtain ⟨ew, hew⟩ : ∃ z : Int, z = if x.l = false then 0 else 75 := ⟨_, rfl⟩
     obtain ⟨hy1, hyl⟩ : y1 = x.d.map b8 ∧ ar.len y1 = (x.d.length : Int) := by
      cases x
      rw [It.row] at hX
      injection hX with _ h; injection h with h _; injection h with h; injection h with h _
      exact ⟨h.symm, by rw [lenIs har, show y1 = List.map b8 _ from h.symm, List.length_map]; rfl⟩
     have hto : to = u8s u.to := hur.to
     have hTO : to.length = 20 := by rw [hto, u8s, List.length_map]; exact huo.to
     conv => cbv
     refine call_inN har hΓ1 Tryd.func68 rfl ?_
     intro Γ2 hΓ2 vs2
     conv => cbv
     refine callX false ew _ _ _ _ hΓ2 hew ?_
     conv => cbv
     refine ⟨fun h => ?_, fun h => ?_⟩
     ·have g8 := cNe har (a := ew) (b := 0) h
      have hl : ¬ x.l = false := fun e => g8 (by rw [hew, if_pos e])
      have hRe : readF u f x = .error ew := by rw [hRF, recvR, if_neg hl, hew, if_neg hl]
      conv => cbv
      refine ⟨fun h => ?_, fun h => absurd (cNne har (a := ew) (b := 0) h) g8⟩
      conv => cbv
      exact hbad ew (hbadF _ hRe) _ _ _ _ _ _ _ _ _ _ _ _ _ _ _ _ _ _ _ _ _ _
     have g8 := cNne har (a := ew) (b := 0) h
     have hl : x.l = false := by
      by_cases e : x.l = false
      ·exact e
      ·rw [hew, if_neg e] at g8; exact absurd g8 (by decide)
     rw [recvR, if_pos hl] at hRF
     conv => cbv
     refine ⟨fun h => ?_, fun h => ?_⟩
     ·have g7 := cEq har (a := ar.len y1) (b := 0) h
      rw [if_pos (by omega)] at hRF
      conv => cbv
      refine ⟨⟨⟨p + 1, ar.ib .add .i64 pi 1, ch, no, pr, ti, ca, ga, true, to, va, D, A, bc, B, U, v, r, s⟩, hgoodF _ { u with cr := true } hRF { hur with cr := rfl } rfl rfl⟩, ?_, ?_⟩
      ·conv => cbv
       simp
      ·show (txFs ty).length - (p + 1) < (txFs ty).length - p
       omega
     have g7 := cNeq har (a := ar.len y1) (b := 0) h
     rw [if_neg (by omega)] at hRF
     conv => cbv
     refine ⟨fun h => ?_, fun h => ?_⟩
     ·have g6 := cEq har (a := ar.len y1) (b := 20) h
      rw [if_pos (by omega)] at hRF
      conv => cbv
      refine ⟨by rw [har]; kernel_rfl, fun _ y hy => by rw [hy1] at hy; obtain ⟨b, _, rfl⟩ := List.mem_map.1 hy; exact ⟨_, rfl⟩, ?_⟩
      refine ⟨⟨⟨p + 1, ar.ib .add .i64 pi 1, ch, no, pr, ti, ca, ga, cr, (ar.cpw to 0 y1), va, D, A, bc, B, U, v, r, s⟩, hgoodF _ { u with to := x.d } hRF { hur with to := by show ar.cpw to 0 y1 = u8s x.d; rw [har, hy1]; exact cpw20 hTO (by omega) } rfl rfl⟩, ?_, ?_⟩
      ·conv => cbv
       simp
      ·show (txFs ty).length - (p + 1) < (txFs ty).length - p
       omega
     have g6 := cNeq har (a := ar.len y1) (b := 20) h
     rw [if_neg (by omega)] at hRF
     conv => cbv
     exact hbad 77 (hbadF _ hRF) _ _ _ _ _ _ _ _ _ _ _ _ _ _ _ _ _ _ _ _ _ _
    have g6 := cNeq har (a := f) (b := 6) h
    conv => cbv
    refine ⟨fun h => ?_, fun h => ?_⟩
    ·have g0 := cEq har (a := f) (b := 8) h
     have hRF : readF u f x = onE x.getText.2 { u with d := x.getText.1, sd := [] } := by rw [g0]; exact rF8 u x
     obtain ⟨zv, hzv⟩ : ∃ z, z = x.getText.1.map b8 := ⟨_, rfl⟩
     obtain ⟨ev, hev⟩ : ∃ z : Int, z = x.getText.2 := ⟨_, rfl⟩
     conv => cbv
     refine callT zv ev _ _ _ _ hΓ1 hzv hev ?_
     conv => cbv
     refine ⟨fun h => ?_, fun h => ?_⟩
     ·have g9 := cNe har (a := ev) (b := 0) h
      conv => cbv
      exact hbad ev (hbadF _ (by rw [hRF]; rw [← hev]; exact onE_err _ g9)) _ _ _ _ _ _ _ _ _ _ _ _ _ _ _ _ _ _ _ _ _ _
     ·have g9 := cNne har (a := ev) (b := 0) h
      conv => cbv
      refine ⟨⟨⟨p + 1, ar.ib .add .i64 pi 1, ch, no, pr, ti, ca, ga, cr, to, va, zv, A, bc, B, U, v, r, s⟩, hgoodF _ ({ u with d := x.getText.1, sd := [] }) (by rw [hRF]; rw [← hev]; exact onE_fine _ g9) { hur with D := hzv, sd := rfl } rfl rfl⟩, ?_, ?_⟩
      ·conv => cbv
       simp
      ·show (txFs ty).length - (p + 1) < (txFs ty).length - p
       omega
    have g8 := cNeq har (a := f) (b := 8) h
    conv => cbv
    refine ⟨fun h => ?_, fun h => ?_⟩
    ·have g0 := cEq har (a := f) (b := 9) h
     obtain ⟨zv, ev, hpe, hpn, hps⟩ := pE9 u x
     rw [← g0] at hpn hps
     conv => cbv
     refine callP zv ev _ _ _ _ hΓ1 hpe ?_
     conv => cbv
     refine ⟨fun h => ?_, fun h => ?_⟩
     ·have g9 := cNe har (a := ev) (b := 0) h
      conv => cbv
      exact hbad ev (hbadF _ (hpn g9)) _ _ _ _ _ _ _ _ _ _ _ _ _ _ _ _ _ _ _ _ _ _
     ·have g9 := cNne har (a := ev) (b := 0) h
      obtain ⟨es, he1, he2⟩ := hps g9
      conv => cbv
      refine ⟨⟨⟨p + 1, ar.ib .add .i64 pi 1, ch, no, pr, ti, ca, ga, cr, to, va, D, zv, bc, B, U, v, r, s⟩, hgoodF _ { u with ac := es, sac := [] } he1 { hur with A := he2, sa := rfl } rfl rfl⟩, ?_, ?_⟩
      ·conv => cbv
       simp
      ·show (txFs ty).length - (p + 1) < (txFs ty).length - p
       omega
    have g9 := cNeq har (a := f) (b := 9) h
    conv => cbv
    refine ⟨fun h => ?_, fun h => ?_⟩
    ·have g0 := cEq har (a := f) (b := 11) h
     have hRF : readF u f x = blobR u x := by rw [g0]; exact rF11 u x
     obtain ⟨ew, hew⟩ : ∃ z : Int, z = if x.l = true then 0 else 75 := ⟨_, rfl⟩
     have hz1 : z1 = rowsOf x.its := by
      cases x
      rw [It.row] at hX
      injection hX with _ h; injection h with _ h; injection h with h _; injection h with h; injection h with h
      exact h.symm
     have hzl : ar.len z1 = (x.its.length : Int) := by rw [lenIs har, hz1, rowsOf_length]
     have hxi : bulks x.its ≤ 2 ^ 26 := by cases x; simp only [It.bulk] at hxk; simp only [It.its]; omega
     have hxn : x.its.length ≤ 2 ^ 26 := Nat.le_trans (bulks_len x.its) hxi
     have hub : u.bl = [] := hu11 (by rw [← g0]; exact hnd)
     have hB0 : B = [] := by have h : B = u.bl.map key := hur.B; rw [h, hub]; rfl
     conv => cbv
     refine call_inN har hΓ1 Tryd.func71 rfl ?_
     intro Γ2 hΓ2 vs2
     conv => cbv
     refine callX true ew _ _ _ _ hΓ2 hew ?_
     conv => cbv
     refine ⟨fun h => ?_, fun h => ?_⟩
     ·have g8 := cNe har (a := ew) (b := 0) h
      have hl : ¬ x.l = true := fun e => g8 (by rw [hew, if_pos e])
      have hRe : readF u f x = .error ew := by rw [hRF, blobR, if_neg hl, hew, if_neg hl]
      conv => cbv
      refine ⟨fun h => ?_, fun h => absurd (cNne har (a := ew) (b := 0) h) g8⟩
      conv => cbv
      exact hbad ew (hbadF _ hRe) _ _ _ _ _ _ _ _ _ _ _ _ _ _ _ _ _ _ _ _ _ _
     have g8 := cNne har (a := ew) (b := 0) h
     have hl : x.l = true := by
      by_cases e : x.l = true
      ·exact e
      ·rw [hew, if_neg e] at g8; exact absurd g8 (by decide)
     rw [blobR, if_pos hl] at hRF
     conv => cbv
     refine .inr ⟨{ q : Nat × Int × List (List PS) // q.1 ≤ x.its.length ∧ q.2.1 = q.1 ∧ q.2.2 = (blobL (x.its.take q.1)).map key ∧ blobE (x.its.take q.1) = 0 },
      fun q => ⟨mk 43 [(0, .s (.ptr 1 0)), (1, .a [.c (.p (.v (.bool xa))), .c (.p (.sl y1 y2)), .c (.p (.sl z1 z2))]), (3, .s (.ptr 7 0)), (4, .s (.lit .i64 0)), (16, .s (.p (.sl z1 z2))), (17, pint (ar.len z1)), (18, pint q.1.2.1)],
       [.box resRow, .box (tqSeg ty ⟨p, pi, ch, no, pr, ti, ca, ga, cr, to, va, D, A, bc, B, U, v, r, s⟩), .box [.c (.p (.v (.bool a))), .c (.p (.sl b1 b2)), .c (.p (.sl c1 c2))], .arr q.1.2.2 45 32 32 true,
        .hid (mk 87 [(2, .s (.ptr 0 0)), (3, .s (.lit .i64 0)), (4, .s (.ptr 1 0)), (5, pint ty), (8, .s (.ptr 2 0)), (10, .s (.p (.sl F []))), (50, .s (.p (.sl F []))), (51, pint (ar.len F)), (52, pint pi)]) vs1,
        .box [.c (.p (.v (.bool xa))), .c (.p (.sl y1 y2)), .c (.p (.sl z1 z2))], .hid (mk 79 []) vs2, .box [.c (.p (.v (.bool xa))), .c (.p (.sl y1 y2)), .c (.p (.sl z1 z2))]]⟩,
      fun q => x.its.length - q.1.1, [], _, ⟨(0, 0, []), Nat.zero_le _, rfl, rfl, rfl⟩, rfl, ?_, ?_⟩
     ·conv => cbv
      simp [hB0]
     rintro ⟨⟨i, ii, Z⟩, hi, hii, hZ, hE⟩
     dsimp only at hi hii hZ hE
     dsimp only
     conv => cbv
     refine ⟨fun h => ?_, fun h => ?_⟩
     ·have g7 := cLt har (b := ar.len z1) h
      obtain ⟨y, hy⟩ : ∃ y, x.its[i]? = some y := ⟨_, List.getElem?_eq_getElem (by omega)⟩
      obtain ⟨ya, ⟨k1, k2⟩, ⟨j1, j2⟩, hY⟩ := row3 y
      have ry : z1[ii.toNat]? = some [.c (.v (.bool ya)), .c (.sl k1 k2), .c (.sl j1 j2)] := by rw [hz1, hii, Int.toNat_natCast, rowsOf_get hy, hY]
      have ii0 : (0 : Int) ≤ ii := by omega
      have hyk : y.bulk ≤ 2 ^ 26 := Nat.le_trans (bulk_mem (List.mem_of_getElem? hy)) hxi
      have hdy : x.its = x.its.take i ++ y :: x.its.drop (i + 1) := by
       obtain ⟨hlt, e⟩ := List.getElem?_eq_some_iff.1 hy
       rw [← e, List.getElem_cons_drop, List.take_append_drop]
      obtain ⟨P, hP⟩ : ∃ P, P = (y.getFixed 32).1.map b8 := ⟨_, rfl⟩
      obtain ⟨ev, hev⟩ : ∃ z, z = (y.getFixed 32).2 := ⟨_, rfl⟩
      have callG : ∀ (Γ : Ctx) (d' : Nat) (k : List PR → Prop) (R : Prop), Γ = ctx Tryd.prog d' → k [.s (.sl P []), .s (.v (.int .i64 ev))] → Γ.g 86 [.a [.c (.v (.bool ya)), .c (.sl k1 k2), .c (.sl j1 j2)], .s (.v (.int .i64 32))] k ∨ R := fun Γ d' k R hΓ hk => call_by hΓ getFixed_sound ⟨y, 32, by rw [hY]; rfl, by omega, by rw [← hP, ← hev]; exact hk⟩
      conv => cbv
      refine ⟨_, ii0, ry, rfl, ?_⟩
      conv => cbv
      refine callG _ _ _ _ hΓ2 ?_
      conv => cbv
      refine ⟨fun h => ?_, fun h => ?_⟩
      ·have g6 := cNe har (a := ev) (b := 0) h
       have hRe : readF u f x = .error ev := by
        rw [hRF]
        have h1 : blobE x.its = ev := by rw [hdy, hev]; exact blobE_first hE (by rw [← hev]; exact g6)
        rw [h1]; exact onE_err _ g6
       conv => cbv
       refine ⟨fun h => ?_, fun h => absurd (cNne har (a := ev) (b := 0) h) g6⟩
       conv => cbv
       exact hbad ev (hbadF _ hRe) _ _ _ _ _ _ _ _ _ _ _ _ _ _ _ _ _ _ _ _ _ _
      have g6 := cNne har (a := ev) (b := 0) h
      have h32 : (y.getFixed 32).1.length = 32 := getFixed_len (by rw [← hev]; exact g6)
      obtain ⟨v1, hv1⟩ : ∃ z, z = u8s (y.getFixed 32).1 := ⟨_, rfl⟩
      have hv1l : v1.length = 32 := by rw [hv1, u8s, List.length_map, h32]
      have hcut := take20 hP h32
      rw [← hv1] at hcut
      have hZ2 : ar.app Z [[.r 32 v1]] = (blobL (x.its.take (i + 1))).map key := by
       rw [appIs har, hZ, take_succ_get hy, blobL, blobL, List.map_append, List.map_append, hv1]; rfl
      have hE2 : blobE (x.its.take (i + 1)) = 0 := by rw [take_succ_get hy, blobE_append _ _ hE, ← hev]; exact g6
      have hZl : Z.length = i := by rw [hZ, List.length_map, blobL, List.length_map, List.length_take]; omega
      conv => cbv
      refine ⟨by rw [har]; kernel_rfl, v1, hv1l, hcut, ?_⟩
      conv => cbv
      refine ⟨fun _ => ⟨by show (Z.length + 1) * 32 ≤ 140737488355328; omega, fun y hy => by rw [List.mem_singleton] at hy; subst hy; rfl⟩, ?_⟩
      refine ⟨⟨(i + 1, ar.ib .add .i64 ii 1, ar.app Z [[.r 32 v1]]), by omega, iSucc har hii (by omega), hZ2, hE2⟩, ?_, ?_⟩
      ·conv => cbv
       simp
      ·show x.its.length - (i + 1) < x.its.length - i
       omega
     have g7 := cNlt har (b := ar.len z1) h
     have hie : i = x.its.length := by omega
     rw [hie, List.take_length] at hE hZ
     have hRF : readF u f x = .ok { u with bl := blobL x.its, sbl := [] } := by rw [hRF]; exact onE_fine _ hE
     conv => cbv
     refine ⟨⟨⟨p + 1, ar.ib .add .i64 pi 1, ch, no, pr, ti, ca, ga, cr, to, va, D, A, bc, Z, U, v, r, s⟩, hgoodF _ { u with bl := blobL x.its, sbl := [] } hRF { hur with B := hZ, sb := rfl } rfl rfl⟩, ?_, ?_⟩
     ·conv => cbv
      simp
     ·show (txFs ty).length - (p + 1) < (txFs ty).length - p
      omega
    have g11 := cNeq har (a := f) (b := 11) h
    conv => cbv
    refine ⟨fun h => ?_, fun h => ?_⟩
    ·have g0 := cEq har (a := f) (b := 12) h
     obtain ⟨zv, ev, hpe, hpn, hps⟩ := pE12 u x
     rw [← g0] at hpn hps
     conv => cbv
     refine callA zv ev _ _ _ _ hΓ1 hpe ?_
     conv => cbv
     refine ⟨fun h => ?_, fun h => ?_⟩
     ·have g9 := cNe har (a := ev) (b := 0) h
      conv => cbv
      exact hbad ev (hbadF _ (hpn g9)) _ _ _ _ _ _ _ _ _ _ _ _ _ _ _ _ _ _ _ _ _ _
     ·have g9 := cNne har (a := ev) (b := 0) h
      obtain ⟨es, he1, he2⟩ := hps g9
      conv => cbv
      refine ⟨⟨⟨p + 1, ar.ib .add .i64 pi 1, ch, no, pr, ti, ca, ga, cr, to, va, D, A, bc, B, zv, v, r, s⟩, hgoodF _ { u with au := es, sau := [] } he1 { hur with U := he2, su := rfl } rfl rfl⟩, ?_, ?_⟩
      ·conv => cbv
       simp
      ·show (txFs ty).length - (p + 1) < (txFs ty).length - p
       omega
    have g12 := cNeq har (a := f) (b := 12) h
    conv => cbv
    have hRF := rFn g0 g1 g5 g6 g8 g9 g11 g12 u x
    obtain ⟨zv, hzv⟩ : ∃ z, z = w4 (x.num 32).1 := ⟨_, rfl⟩
    obtain ⟨ev, hev⟩ : ∃ z : Int, z = (x.num 32).2 := ⟨_, rfl⟩
    refine ⟨{ q : TQ // q.rep (setNum u f (x.num 32).1) }, fun q => ⟨mk 79 [(6, pint ev)],
     [.box resRow, .box (tqSeg ty q.1), .box [.c (.p (.v (.bool a))), .c (.p (.sl b1 b2)), .c (.p (.sl c1 c2))], .arr q.1.B 45 32 32 true,
      .hid (mk 87 [(2, .s (.ptr 0 0)), (3, .s (.lit .i64 0)), (4, .s (.ptr 1 0)), (5, pint ty), (8, .s (.ptr 2 0)), (10, .s (.p (.sl F []))), (50, .s (.p (.sl F []))), (51, pint (ar.len F)), (52, pint pi)]) vs1]⟩, ?_, ?_⟩
    ·conv => cbv
     refine ⟨?_, ?_⟩
     ·conv => cbv
      refine call_inN har hΓ1 Tryd.func64 rfl ?_
      intro Γ2 hΓ2 vs2
      conv => cbv
      refine ⟨fun h => ?_, fun h => ?_⟩
      ·have k2 := cEq har (a := f) (b := 2) h
       conv => cbv
       refine callN zv ev _ _ _ hΓ1 hzv hev ?_
       conv => cbv
       refine ⟨⟨⟨0, 0, ch, no, zv, ti, ca, ga, cr, to, va, D, A, bc, B, U, v, r, s⟩, ?_⟩, ?_⟩
       ·rw [show setNum u f (x.num 32).1 = { u with pr := (x.num 32).1 } from by unfold setNum; rw [if_pos k2]]
        exact { hur with pr := hzv }
       ·conv => cbv
        simp
      have k2 := cNeq har (a := f) (b := 2) h
      conv => cbv
      refine ⟨fun h => ?_, fun h => ?_⟩
      ·have k3 := cEq har (a := f) (b := 3) h
       conv => cbv
       refine callN zv ev _ _ _ hΓ1 hzv hev ?_
       conv => cbv
       refine ⟨⟨⟨0, 0, ch, no, pr, zv, ca, ga, cr, to, va, D, A, bc, B, U, v, r, s⟩, ?_⟩, ?_⟩
       ·rw [show setNum u f (x.num 32).1 = { u with ti := (x.num 32).1 } from by unfold setNum; rw [if_neg k2]; rw [if_pos k3]]
        exact { hur with ti := hzv }
       ·conv => cbv
        simp
      have k3 := cNeq har (a := f) (b := 3) h
      conv => cbv
      refine ⟨fun h => ?_, fun h => ?_⟩
      ·have k4 := cEq har (a := f) (b := 4) h
       conv => cbv
       refine callN zv ev _ _ _ hΓ1 hzv hev ?_
       conv => cbv
       refine ⟨⟨⟨0, 0, ch, no, pr, ti, zv, ga, cr, to, va, D, A, bc, B, U, v, r, s⟩, ?_⟩, ?_⟩
       ·rw [show setNum u f (x.num 32).1 = { u with ca := (x.num 32).1 } from by unfold setNum; rw [if_neg k2]; rw [if_neg k3]; rw [if_pos k4]]
        exact { hur with ca := hzv }
       ·conv => cbv
        simp
      have k4 := cNeq har (a := f) (b := 4) h
      conv => cbv
      refine ⟨fun h => ?_, fun h => ?_⟩
      ·have k7 := cEq har (a := f) (b := 7) h
       conv => cbv
       refine callN zv ev _ _ _ hΓ1 hzv hev ?_
       conv => cbv
       refine ⟨⟨⟨0, 0, ch, no, pr, ti, ca, ga, cr, to, zv, D, A, bc, B, U, v, r, s⟩, ?_⟩, ?_⟩
       ·rw [show setNum u f (x.num 32).1 = { u with va := (x.num 32).1 } from by unfold setNum; rw [if_neg k2]; rw [if_neg k3]; rw [if_neg k4]; rw [if_pos k7]]
        exact { hur with va := hzv }
       ·conv => cbv
        simp
      have k7 := cNeq har (a := f) (b := 7) h
      conv => cbv
      refine ⟨fun h => ?_, fun h => ?_⟩
      ·have k10 := cEq har (a := f) (b := 10) h
       conv => cbv
       refine callN zv ev _ _ _ hΓ1 hzv hev ?_
       conv => cbv
       refine ⟨⟨⟨0, 0, ch, no, pr, ti, ca, ga, cr, to, va, D, A, zv, B, U, v, r, s⟩, ?_⟩, ?_⟩
       ·rw [show setNum u f (x.num 32).1 = { u with bc := (x.num 32).1 } from by unfold setNum; rw [if_neg k2]; rw [if_neg k3]; rw [if_neg k4]; rw [if_neg k7]; rw [if_pos k10]]
        exact { hur with bc := hzv }
       ·conv => cbv
        simp
      have k10 := cNeq har (a := f) (b := 10) h
      conv => cbv
      refine ⟨fun h => ?_, fun h => ?_⟩
      ·have k13 := cEq har (a := f) (b := 13) h
       conv => cbv
       refine callN zv ev _ _ _ hΓ1 hzv hev ?_
       conv => cbv
       refine ⟨⟨⟨0, 0, ch, no, pr, ti, ca, ga, cr, to, va, D, A, bc, B, U, zv, r, s⟩, ?_⟩, ?_⟩
       ·rw [show setNum u f (x.num 32).1 = { u with v := (x.num 32).1 } from by unfold setNum; rw [if_neg k2]; rw [if_neg k3]; rw [if_neg k4]; rw [if_neg k7]; rw [if_neg k10]; rw [if_pos k13]]
        exact { hur with v := hzv }
       ·conv => cbv
        simp
      have k13 := cNeq har (a := f) (b := 13) h
      conv => cbv
      refine ⟨fun h => ?_, fun h => ?_⟩
      ·have k14 := cEq har (a := f) (b := 14) h
       conv => cbv
       refine callN zv ev _ _ _ hΓ1 hzv hev ?_
       conv => cbv
       refine ⟨⟨⟨0, 0, ch, no, pr, ti, ca, ga, cr, to, va, D, A, bc, B, U, v, zv, s⟩, ?_⟩, ?_⟩
       ·rw [show setNum u f (x.num 32).1 = { u with r := (x.num 32).1 } from by unfold setNum; rw [if_neg k2]; rw [if_neg k3]; rw [if_neg k4]; rw [if_neg k7]; rw [if_neg k10]; rw [if_neg k13]; rw [if_pos k14]]
        exact { hur with r := hzv }
       ·conv => cbv
        simp
      have k14 := cNeq har (a := f) (b := 14) h
      conv => cbv
      refine callN zv ev _ _ _ hΓ1 hzv hev ?_
      conv => cbv
      refine ⟨⟨⟨0, 0, ch, no, pr, ti, ca, ga, cr, to, va, D, A, bc, B, U, v, r, zv⟩, ?_⟩, ?_⟩
      ·rw [show setNum u f (x.num 32).1 = { u with s := (x.num 32).1 } from by unfold setNum; rw [if_neg k2]; rw [if_neg k3]; rw [if_neg k4]; rw [if_neg k7]; rw [if_neg k10]; rw [if_neg k13]; rw [if_neg k14]]
       exact { hur with s := hzv }
      ·conv => cbv
       simp
     ·conv => cbv
      refine call_inN har hΓ1 Tryd.func64 rfl ?_
      intro Γ2 hΓ2 vs2
      conv => cbv
      refine ⟨fun h => ?_, fun h => ?_⟩
      ·have k2 := cEq har (a := f) (b := 2) h
       conv => cbv
       refine callN zv ev _ _ _ hΓ1 hzv hev ?_
       conv => cbv
       refine ⟨⟨⟨0, 0, ch, no, zv, ti, ca, ga, cr, to, va, D, A, bc, B, U, v, r, s⟩, ?_⟩, ?_⟩
       ·rw [show setNum u f (x.num 32).1 = { u with pr := (x.num 32).1 } from by unfold setNum; rw [if_pos k2]]
        exact { hur with pr := hzv }
       ·conv => cbv
        simp
      have k2 := cNeq har (a := f) (b := 2) h
      conv => cbv
      refine ⟨fun h => ?_, fun h => ?_⟩
      ·have k3 := cEq har (a := f) (b := 3) h
       conv => cbv
       refine callN zv ev _ _ _ hΓ1 hzv hev ?_
       conv => cbv
       refine ⟨⟨⟨0, 0, ch, no, pr, zv, ca, ga, cr, to, va, D, A, bc, B, U, v, r, s⟩, ?_⟩, ?_⟩
       ·rw [show setNum u f (x.num 32).1 = { u with ti := (x.num 32).1 } from by unfold setNum; rw [if_neg k2]; rw [if_pos k3]]
        exact { hur with ti := hzv }
       ·conv => cbv
        simp
      have k3 := cNeq har (a := f) (b := 3) h
      conv => cbv
      refine ⟨fun h => ?_, fun h => ?_⟩
      ·have k4 := cEq har (a := f) (b := 4) h
       conv => cbv
       refine callN zv ev _ _ _ hΓ1 hzv hev ?_
       conv => cbv
       refine ⟨⟨⟨0, 0, ch, no, pr, ti, zv, ga, cr, to, va, D, A, bc, B, U, v, r, s⟩, ?_⟩, ?_⟩
       ·rw [show setNum u f (x.num 32).1 = { u with ca := (x.num 32).1 } from by unfold setNum; rw [if_neg k2]; rw [if_neg k3]; rw [if_pos k4]]
        exact { hur with ca := hzv }
       ·conv => cbv
        simp
      have k4 := cNeq har (a := f) (b := 4) h
      conv => cbv
      refine ⟨fun h => ?_, fun h => ?_⟩
      ·have k7 := cEq har (a := f) (b := 7) h
       conv => cbv
       refine callN zv ev _ _ _ hΓ1 hzv hev ?_
       conv => cbv
       refine ⟨⟨⟨0, 0, ch, no, pr, ti, ca, ga, cr, to, zv, D, A, bc, B, U, v, r, s⟩, ?_⟩, ?_⟩
       ·rw [show setNum u f (x.num 32).1 = { u with va := (x.num 32).1 } from by unfold setNum; rw [if_neg k2]; rw [if_neg k3]; rw [if_neg k4]; rw [if_pos k7]]
        exact { hur with va := hzv }
       ·conv => cbv
        simp
      have k7 := cNeq har (a := f) (b := 7) h
      conv => cbv
      refine ⟨fun h => ?_, fun h => ?_⟩
      ·have k10 := cEq har (a := f) (b := 10) h
       conv => cbv
       refine callN zv ev _ _ _ hΓ1 hzv hev ?_
       conv => cbv
       refine ⟨⟨⟨0, 0, ch, no, pr, ti, ca, ga, cr, to, va, D, A, zv, B, U, v, r, s⟩, ?_⟩, ?_⟩
       ·rw [show setNum u f (x.num 32).1 = { u with bc := (x.num 32).1 } from by unfold setNum; rw [if_neg k2]; rw [if_neg k3]; rw [if_neg k4]; rw [if_neg k7]; rw [if_pos k10]]
        exact { hur with bc := hzv }
       ·conv => cbv
        simp
      have k10 := cNeq har (a := f) (b := 10) h
      conv => cbv
      refine ⟨fun h => ?_, fun h => ?_⟩
      ·have k13 := cEq har (a := f) (b := 13) h
       conv => cbv
       refine callN zv ev _ _ _ hΓ1 hzv hev ?_
       conv => cbv
       refine ⟨⟨⟨0, 0, ch, no, pr, ti, ca, ga, cr, to, va, D, A, bc, B, U, zv, r, s⟩, ?_⟩, ?_⟩
       ·rw [show setNum u f (x.num 32).1 = { u with v := (x.num 32).1 } from by unfold setNum; rw [if_neg k2]; rw [if_neg k3]; rw [if_neg k4]; rw [if_neg k7]; rw [if_neg k10]; rw [if_pos k13]]
        exact { hur with v := hzv }
       ·conv => cbv
        simp
      have k13 := cNeq har (a := f) (b := 13) h
      conv => cbv
      refine ⟨fun h => ?_, fun h => ?_⟩
      ·have k14 := cEq har (a := f) (b := 14) h
       conv => cbv
       refine callN zv ev _ _ _ hΓ1 hzv hev ?_
       conv => cbv
       refine ⟨⟨⟨0, 0, ch, no, pr, ti, ca, ga, cr, to, va, D, A, bc, B, U, v, zv, s⟩, ?_⟩, ?_⟩
       ·rw [show setNum u f (x.num 32).1 = { u with r := (x.num 32).1 } from by unfold setNum; rw [if_neg k2]; rw [if_neg k3]; rw [if_neg k4]; rw [if_neg k7]; rw [if_neg k10]; rw [if_neg k13]; rw [if_pos k14]]
        exact { hur with r := hzv }
       ·conv => cbv
        simp
      have k14 := cNeq har (a := f) (b := 14) h
      conv => cbv
      refine callN zv ev _ _ _ hΓ1 hzv hev ?_
      conv => cbv
      refine ⟨⟨⟨0, 0, ch, no, pr, ti, ca, ga, cr, to, va, D, A, bc, B, U, v, r, zv⟩, ?_⟩, ?_⟩
      ·rw [show setNum u f (x.num 32).1 = { u with s := (x.num 32).1 } from by unfold setNum; rw [if_neg k2]; rw [if_neg k3]; rw [if_neg k4]; rw [if_neg k7]; rw [if_neg k10]; rw [if_neg k13]; rw [if_neg k14]]
       exact { hur with s := hzv }
      ·conv => cbv
       simp
    rintro ⟨⟨qp, qi, qch, qno, qpr, qti, qca, qga, qcr, qto, qva, qD, qA, qbc, qB, qU, qv, qr, qs⟩, hq⟩
    dsimp only
    conv => cbv
    refine ⟨fun h => ?_, fun h => ?_⟩
    ·have g9 := cNe har (a := ev) (b := 0) h
     conv => cbv
     exact hbad ev (hbadF _ (by rw [hRF]; rw [← hev]; exact onE_err _ g9)) _ _ _ _ _ _ _ _ _ _ _ _ _ _ _ _ _ _ _ _ _ _
    ·have g9 := cNne har (a := ev) (b := 0) h
     conv => cbv
     refine ⟨⟨⟨p + 1, ar.ib .add .i64 pi 1, qch, qno, qpr, qti, qca, qga, qcr, qto, qva, qD, qA, qbc, qB, qU, qv, qr, qs⟩, hgoodF _ ((setNum u f (x.num 32).1)) (by rw [hRF]; rw [← hev]; exact onE_fine _ g9) ⟨hq.ch, hq.no, hq.pr, hq.ti, hq.ca, hq.ga, hq.cr, hq.to, hq.va, hq.D, hq.sd, hq.A, hq.sa, hq.bc, hq.B, hq.sb, hq.U, hq.su, hq.v, hq.r, hq.s⟩ rfl rfl⟩, ?_, ?_⟩
     ·conv => cbv
      simp
     ·show (txFs ty).length - (p + 1) < (txFs ty).length - p
      omega
   ·have g := cNlt har (b := ar.len F) h
    have huE : endTx u = R := by
     rw [List.drop_of_length_le (by omega), decF] at huR
     ·exact huR
     ·intro f fs x xs h; cases h
    have hrow := hur.row
    have callC : ∀ (c1 : Int) (c2 c3 : Bool) (c4 : Int) (Γ : Ctx) (d' : Nat) (k : List PR → Prop) (R : Prop), Γ = ctx Tryd.prog d' → c1 = (chC u.v : Nat) → c2 = chN u.v → c3 = chO u.v → c4 = chE u.v → k [.s (.v (.int .u64 c1)), .s (.v (.bool c2)), .s (.v (.bool c3)), .s (.v (.int .i64 c4))] → Γ.g 38 [.a [.r 4 v]] k ∨ R := fun c1 c2 c3 c4 Γ d' k R hΓ h1 h2 h3 h4 hk => call_by hΓ txChain_sound ⟨u.v, by unfold pw; rw [← hur.v], huo.v, by rw [← h1, ← h2, ← h3, ← h4]; exact hk⟩
    have callE : ∀ (u' : Tx) (e ch : Int) (Γ : Ctx) (d' : Nat) (k : List PR → Prop), Γ = ctx Tryd.prog d' → u'.ok → u'.fit → u'.row = txRow ty ch no pr ti ca ga cr to va D [] A [] bc B [] U [] v r s → e = (encR u').2 → k [.s (.v (.int .i64 e))] → Γ.g 17 [.a (txRow ty ch no pr ti ca ga cr to va D [] A [] bc B [] U [] v r s)] k := fun u' e ch Γ d' k hΓ h1 h2 h3 h4 hk => call_by' hΓ check15_sound ⟨u', by rw [h3], h1, h2, by rw [← h4]; exact hk⟩
    conv => cbv
    refine ⟨fun h => ?_, fun h => ?_⟩
    ·have g5 := cEq har (a := ty) (b := 0) h
     obtain ⟨w1, hw1⟩ : ∃ z : Int, z = (chC u.v : Nat) := ⟨_, rfl⟩
     obtain ⟨w2, hw2⟩ : ∃ z, z = chN u.v := ⟨_, rfl⟩
     obtain ⟨w3, hw3⟩ : ∃ z, z = chO u.v := ⟨_, rfl⟩
     obtain ⟨w4, hw4⟩ : ∃ z : Int, z = chE u.v := ⟨_, rfl⟩
     rw [endTx, if_pos (by rw [hut]; exact g5)] at huE
     conv => cbv
     refine callC w1 w2 w3 w4 _ _ _ _ hΓ hw1 hw2 hw3 hw4 ?_
     conv => cbv
     refine ⟨fun h => ?_, fun h => ?_⟩
     ·have g4 := cNe har (a := w4) (b := 0) h
      have hRe : R = .error w4 := by rw [← huE, if_neg (by rw [← hw4]; exact g4), hw4]
      conv => cbv
      exact hbad w4 hRe _ _ _ _ _ _ _ _ _ _ _ _ _ _ _ _ _ _ _ _ _ _
     have g4 := cNne har (a := w4) (b := 0) h
     rw [if_pos (by rw [← hw4]; exact g4)] at huE
     conv => cbv
     obtain ⟨ev, hev⟩ : ∃ z : Int, z = (encR { u with ch := chC u.v }).2 := ⟨_, rfl⟩
     have hrow2 : ({ u with ch := chC u.v } : Tx).row = txRow ty w1 no pr ti ca ga cr to va D [] A [] bc B [] U [] v r s := by
      have := TQ.rep.row (q := ⟨p, pi, w1, no, pr, ti, ca, ga, cr, to, va, D, A, bc, B, U, v, r, s⟩) (u := { u with ch := chC u.v }) { hur with ch := hw1 }
      rw [this]; show txRow u.ty _ _ _ _ _ _ _ _ _ _ _ _ _ _ _ _ _ _ _ _ _ = _; rw [hut]
     have hC : chC u.v < 18446744073709551616 := by unfold chC; split <;> omega
     refine ⟨by rw [har]; kernel_rfl, callE { u with ch := chC u.v } ev w1 _ _ _ hΓ { huo with ch := hC } (Tx.lim.fit (t := { u with ch := chC u.v }) { hul with }) hrow2 hev ?_⟩
     conv => cbv
     by_cases he : ev = 0
     ·have hg := hgood { u with ch := chC u.v } (by rw [← huE, finTx, ← hev]; exact onE_fine _ he)
      rw [hrow2] at hg
      rw [he]
      exact hg
     ·exact hbad ev (by rw [← huE, finTx, ← hev]; exact onE_err _ he) _ _ _ _ _ _ _ _ _ _ _ _ _ _ _ _ _ _ _ _ _ _
    ·have g5 := cNeq har (a := ty) (b := 0) h
     rw [endTx, if_neg (by rw [hut]; exact g5)] at huE
     conv => cbv
     obtain ⟨ev, hev⟩ : ∃ z : Int, z = (encR u).2 := ⟨_, rfl⟩
     rw [hut] at hrow
     refine ⟨by rw [har]; kernel_rfl, callE u ev ch _ _ _ hΓ huo hul.fit hrow hev ?_⟩
     conv => cbv
     by_cases he : ev = 0
     ·have hg := hgood u (by rw [← huE, finTx, ← hev]; exact onE_fine _ he)
      rw [hrow] at hg
      rw [he]
      exact hg
     ·exact hbad ev (by rw [← huE, finTx, ← hev]; exact onE_err _ he) _ _ _ _ _ _ _ _ _ _ _ _ _ _ _ _ _ _ _ _ _ _
