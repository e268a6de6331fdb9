/-
  Functions that compare two lists: of bytes, digests, authorizations. Condition: at most 2^40 elements.
  Functions that compare two lists: of bytes, digests, authorizations. Condition: at most 2^40 elements.
  The comparison of two access lists inside tx.Same. Condition: at most 2^40 entries, of at most 2^40 keys each.
  tx.Same. Condition: at most 2^36 elements in each list.
  waybillplay.Copy, Lent, LentHashes: lists in new memory, marks behind them. Condition: at most 2^40 elements.
  waybillplay.LentTx, waybilllaw15.twin: a transaction in new memory, marks behind every list. Condition: at most 2^36 elements in each list.
-/
import Derived.Test.YtnaafeeloicklaaDoorUA
namespace Go.Eng
open Go Go.Proofs
set_option maxRecDepth 100000
set_option maxHeartbeats 4000000
set_option linter.unusedVariables false
theorem slEqB_sound : Sound Tryd.prog 28 fun args k => ∃ (xs ys : List (Int)) (s t : List (List PS)) (b : Bool), args = [.s (.sl (xs.map b8') s), .s (.sl (ys.map b8') t)] ∧ xs.length ≤ 2 ^ 40 ∧ (∀ x ∈ xs, True) ∧ (∀ x ∈ ys, True) ∧ (b = true ↔ xs = ys) ∧ k [.s (.v (.bool b))] := by
  refine Sound.of_body tt_ok ent_ok Tryd.func28 rfl ?_
  rintro ar har Γ hΓ args k ⟨xs, ys, s, t, b, hargs, hl, hxo, hyo, hb, hk⟩
  obtain ⟨X, hX⟩ : ∃ X, X = xs.map b8' := ⟨_, rfl⟩
  obtain ⟨Y, hY⟩ : ∃ Y, Y = ys.map b8' := ⟨_, rfl⟩
  have hXl : ar.len X = (xs.length : Int) := by rw [lenIs har, hX, List.length_map]
  have hYl : ar.len Y = (ys.length : Int) := by rw [lenIs har, hY, List.length_map]
  have hno : xs ≠ ys → k [.s (.v (.bool false))] := fun h => by
    have : b = false := by
      cases b with
      | false => rfl
      | true => exact absurd (hb.1 rfl) h
    rw [this] at hk; exact hk
  have hyes : xs = ys → k [.s (.v (.bool true))] := fun h => by rw [hb.2 h] at hk; exact hk
  rw [← hX, ← hY] at hargs
  clear hk
  subst hargs
  conv => cbv
  refine ⟨fun h => ?_, fun h => ?_⟩
  · have g := cNe har (a := ar.len X) (b := ar.len Y) h
    have hk := hno (fun e => g (by rw [hXl, hYl, e]))
    conv => cbv
    exact hk
  · have g := cNne har (a := ar.len X) (b := ar.len Y) h
    have hll : xs.length = ys.length := by omega
    conv => cbv
    refine .inr ⟨{ q : Nat × Int // q.1 ≤ xs.length ∧ q.2 = q.1 ∧ xs.take q.1 = ys.take q.1 },
      fun q => ⟨mk 26 [(0, .s (.p (.sl X s))), (1, .s (.p (.sl Y t))), (12, pint (ar.len X)), (13, pint q.1.2)], []⟩,
      fun q => xs.length - q.1.1, [], _, ⟨(0, 0), Nat.zero_le _, rfl, rfl⟩, rfl, ?_, ?_⟩
    · conv => cbv
      simp
    · rintro ⟨⟨p, pi⟩, hq⟩
      have hp : p ≤ xs.length := hq.1
      have hpi : pi = (p : Int) := hq.2.1
      have hsame : xs.take p = ys.take p := hq.2.2
      dsimp only
      conv => cbv
      refine ⟨fun h => ?_, fun h => ?_⟩
      · have g' := cLt har (b := ar.len X) h
        have hlt : p < xs.length := by omega
        obtain ⟨x, hx⟩ : ∃ x, xs[p]? = some x := ⟨_, List.getElem?_eq_getElem hlt⟩
        obtain ⟨y, hy⟩ : ∃ y, ys[p]? = some y := ⟨_, List.getElem?_eq_getElem (by omega)⟩
        skip
        have rx : X[pi.toNat]? = some [.c (.v (.int .u8 x))] := by rw [hX, hpi]; simp [hx, b8']
        have ry : Y[pi.toNat]? = some [.c (.v (.int .u8 y))] := by rw [hY, hpi]; simp [hy, b8']
        conv => cbv
        refine ⟨by rw [har]; kernel_rfl, ?_⟩
        refine ⟨_, by omega, rx, rfl, ?_⟩
        conv => cbv
        refine ⟨_, by omega, ry, rfl, ?_⟩
        conv => cbv
        refine ⟨fun h2 => ?_, fun h2 => ?_⟩
        · have hxy : x ≠ y := cNe har h2
          have hk := hno (fun e => hxy (by rw [e] at hx; rw [hx] at hy; exact Option.some.inj hy))
          conv => cbv
          exact hk
        · have hxy : x = y := cNne har h2
          have hs2 : xs.take (p + 1) = ys.take (p + 1) := by rw [List.take_add_one, List.take_add_one, hx, hy, hsame, hxy]
          conv => cbv
          refine ⟨⟨(p + 1, ar.ib .add .i64 pi 1), hlt, iSucc har hpi (by omega), hs2⟩, ?_, ?_⟩
          · dsimp only
            conv => cbv
            simp
          · show xs.length - (p + 1) < xs.length - p
            omega
      · have g' := cNlt har (b := ar.len X) h
        have hpe : p = xs.length := by omega
        have hk := hyes (by rw [hpe, List.take_length, hll, List.take_length] at hsame; exact hsame)
        conv => cbv
        exact hk

theorem slEqH_sound : Sound Tryd.prog 29 fun args k => ∃ (xs ys : List (List Int)) (s t : List (List PS)) (b : Bool), args = [.s (.sl (xs.map key) s), .s (.sl (ys.map key) t)] ∧ xs.length ≤ 2 ^ 40 ∧ (∀ x ∈ xs, True) ∧ (∀ x ∈ ys, True) ∧ (b = true ↔ xs = ys) ∧ k [.s (.v (.bool b))] := by
  refine Sound.of_body tt_ok ent_ok Tryd.func29 rfl ?_
  rintro ar har Γ hΓ args k ⟨xs, ys, s, t, b, hargs, hl, hxo, hyo, hb, hk⟩
  obtain ⟨X, hX⟩ : ∃ X, X = xs.map key := ⟨_, rfl⟩
  obtain ⟨Y, hY⟩ : ∃ Y, Y = ys.map key := ⟨_, rfl⟩
  have hXl : ar.len X = (xs.length : Int) := by rw [lenIs har, hX, List.length_map]
  have hYl : ar.len Y = (ys.length : Int) := by rw [lenIs har, hY, List.length_map]
  have hno : xs ≠ ys → k [.s (.v (.bool false))] := fun h => by
    have : b = false := by
      cases b with
      | false => rfl
      | true => exact absurd (hb.1 rfl) h
    rw [this] at hk; exact hk
  have hyes : xs = ys → k [.s (.v (.bool true))] := fun h => by rw [hb.2 h] at hk; exact hk
  rw [← hX, ← hY] at hargs
  clear hk
  subst hargs
  conv => cbv
  refine ⟨fun h => ?_, fun h => ?_⟩
  · have g := cNe har (a := ar.len X) (b := ar.len Y) h
    have hk := hno (fun e => g (by rw [hXl, hYl, e]))
    conv => cbv
    exact hk
  · have g := cNne har (a := ar.len X) (b := ar.len Y) h
    have hll : xs.length = ys.length := by omega
    conv => cbv
    refine .inr ⟨{ q : Nat × Int // q.1 ≤ xs.length ∧ q.2 = q.1 ∧ xs.take q.1 = ys.take q.1 },
      fun q => ⟨mk 26 [(0, .s (.p (.sl X s))), (1, .s (.p (.sl Y t))), (12, pint (ar.len X)), (13, pint q.1.2)], []⟩,
      fun q => xs.length - q.1.1, [], _, ⟨(0, 0), Nat.zero_le _, rfl, rfl⟩, rfl, ?_, ?_⟩
    · conv => cbv
      simp
    · rintro ⟨⟨p, pi⟩, hq⟩
      have hp : p ≤ xs.length := hq.1
      have hpi : pi = (p : Int) := hq.2.1
      have hsame : xs.take p = ys.take p := hq.2.2
      dsimp only
      conv => cbv
      refine ⟨fun h => ?_, fun h => ?_⟩
      · have g' := cLt har (b := ar.len X) h
        have hlt : p < xs.length := by omega
        obtain ⟨x, hx⟩ : ∃ x, xs[p]? = some x := ⟨_, List.getElem?_eq_getElem hlt⟩
        obtain ⟨y, hy⟩ : ∃ y, ys[p]? = some y := ⟨_, List.getElem?_eq_getElem (by omega)⟩
        obtain ⟨xv, hxv⟩ : ∃ xv, xv = u8s x := ⟨_, rfl⟩
        obtain ⟨yv, hyv⟩ : ∃ yv, yv = u8s y := ⟨_, rfl⟩
        have rx : X[pi.toNat]? = some [.r 32 xv] := by rw [hX, hpi]; simp [hx, key, hxv]
        have ry : Y[pi.toNat]? = some [.r 32 yv] := by rw [hY, hpi]; simp [hy, key, hyv]
        conv => cbv
        refine ⟨by rw [har]; kernel_rfl, ?_⟩
        refine ⟨_, by omega, rx, rfl, ?_⟩
        conv => cbv
        refine ⟨_, by omega, ry, rfl, ?_⟩
        conv => cbv
        refine ⟨fun _ => ⟨by rw [hxv]; exact ints_u8s x, by rw [hyv]; exact ints_u8s y⟩, fun h2 => ?_, fun h2 => ?_⟩
        · have hxy : x ≠ y := by
            have h3 : ar.eqv xv yv = false := nbT har h2
            rw [eqvIs har, hxv, hyv, eqVals_u8s] at h3; simpa using h3
          have hk := hno (fun e => hxy (by rw [e] at hx; rw [hx] at hy; exact Option.some.inj hy))
          conv => cbv
          exact hk
        · have hxy : x = y := by
            have h3 : ar.eqv xv yv = true := nbF har h2
            rw [eqvIs har, hxv, hyv, eqVals_u8s] at h3; simpa using h3
          have hs2 : xs.take (p + 1) = ys.take (p + 1) := by rw [List.take_add_one, List.take_add_one, hx, hy, hsame, hxy]
          conv => cbv
          refine ⟨⟨(p + 1, ar.ib .add .i64 pi 1), hlt, iSucc har hpi (by omega), hs2⟩, ?_, ?_⟩
          · dsimp only
            conv => cbv
            simp
          · show xs.length - (p + 1) < xs.length - p
            omega
      · have g' := cNlt har (b := ar.len X) h
        have hpe : p = xs.length := by omega
        have hk := hyes (by rw [hpe, List.take_length, hll, List.take_length] at hsame; exact hsame)
        conv => cbv
        exact hk

end Go.Eng
namespace Go.Eng
open Go Go.Proofs
set_option maxRecDepth 100000
set_option maxHeartbeats 4000000
set_option linter.unusedVariables false
theorem slEqU_sound : Sound Tryd.prog 30 fun args k => ∃ (xs ys : List (Au)) (s t : List (List PS)) (b : Bool), args = [.s (.sl (xs.map Au.row) s), .s (.sl (ys.map Au.row) t)] ∧ xs.length ≤ 2 ^ 40 ∧ (∀ x ∈ xs, (x.ok ∧ bytesOk x.a)) ∧ (∀ x ∈ ys, (x.ok ∧ bytesOk x.a)) ∧ (b = true ↔ xs = ys) ∧ k [.s (.v (.bool b))] := by
  refine Sound.of_body tt_ok ent_ok Tryd.func30 rfl ?_
  rintro ar har Γ hΓ args k ⟨xs, ys, s, t, b, hargs, hl, hxo, hyo, hb, hk⟩
  obtain ⟨X, hX⟩ : ∃ X, X = xs.map Au.row := ⟨_, rfl⟩
  obtain ⟨Y, hY⟩ : ∃ Y, Y = ys.map Au.row := ⟨_, rfl⟩
  have hXl : ar.len X = (xs.length : Int) := by rw [lenIs har, hX, List.length_map]
  have hYl : ar.len Y = (ys.length : Int) := by rw [lenIs har, hY, List.length_map]
  have hno : xs ≠ ys → k [.s (.v (.bool false))] := fun h => by
    have : b = false := by
      cases b with
      | false => rfl
      | true => exact absurd (hb.1 rfl) h
    rw [this] at hk; exact hk
  have hyes : xs = ys → k [.s (.v (.bool true))] := fun h => by rw [hb.2 h] at hk; exact hk
  rw [← hX, ← hY] at hargs
  clear hk
  subst hargs
  conv => cbv
  refine ⟨fun h => ?_, fun h => ?_⟩
  · have g := cNe har (a := ar.len X) (b := ar.len Y) h
    have hk := hno (fun e => g (by rw [hXl, hYl, e]))
    conv => cbv
    exact hk
  · have g := cNne har (a := ar.len X) (b := ar.len Y) h
    have hll : xs.length = ys.length := by omega
    conv => cbv
    refine .inr ⟨{ q : Nat × Int // q.1 ≤ xs.length ∧ q.2 = q.1 ∧ xs.take q.1 = ys.take q.1 },
      fun q => ⟨mk 26 [(0, .s (.p (.sl X s))), (1, .s (.p (.sl Y t))), (12, pint (ar.len X)), (13, pint q.1.2)], []⟩,
      fun q => xs.length - q.1.1, [], _, ⟨(0, 0), Nat.zero_le _, rfl, rfl⟩, rfl, ?_, ?_⟩
    · conv => cbv
      simp
    · rintro ⟨⟨p, pi⟩, hq⟩
      have hp : p ≤ xs.length := hq.1
      have hpi : pi = (p : Int) := hq.2.1
      have hsame : xs.take p = ys.take p := hq.2.2
      dsimp only
      conv => cbv
      refine ⟨fun h => ?_, fun h => ?_⟩
      · have g' := cLt har (b := ar.len X) h
        have hlt : p < xs.length := by omega
        obtain ⟨x, hx⟩ : ∃ x, xs[p]? = some x := ⟨_, List.getElem?_eq_getElem hlt⟩
        obtain ⟨y, hy⟩ : ∃ y, ys[p]? = some y := ⟨_, List.getElem?_eq_getElem (by omega)⟩
        obtain ⟨lx0, lx1, lx2, lx3, la0, la1, la2, la3, la4, la5, la6, la7, la8, la9, la10, la11, la12, la13, la14, la15, la16, la17, la18, la19, lc3, lc4, ly0, ly1, ly2, ly3, lz0, lz1, lz2, lz3, hrx, hox, hcx⟩ := au_cells2 x (hxo x (List.mem_of_getElem? hx)).1 (hxo x (List.mem_of_getElem? hx)).2
        obtain ⟨rx0, rx1, rx2, rx3, ra0, ra1, ra2, ra3, ra4, ra5, ra6, ra7, ra8, ra9, ra10, ra11, ra12, ra13, ra14, ra15, ra16, ra17, ra18, ra19, rc3, rc4, ry0, ry1, ry2, ry3, rz0, rz1, rz2, rz3, hry, hoy, hcy⟩ := au_cells2 y (hyo y (List.mem_of_getElem? hy)).1 (hyo y (List.mem_of_getElem? hy)).2
        obtain ⟨c, hc⟩ : ∃ c, eqVals x.cells y.cells = c := ⟨_, rfl⟩
        have hce := eqVals_cells (hxo x (List.mem_of_getElem? hx)).1 (hyo y (List.mem_of_getElem? hy)).1
        rw [hc] at hce
        rw [← hcx, ← hcy] at hc
        have rx : X[pi.toNat]? = some [.r 4 [.int .u64 lx0, .int .u64 lx1, .int .u64 lx2, .int .u64 lx3], .r 20 [.int .u8 la0, .int .u8 la1, .int .u8 la2, .int .u8 la3, .int .u8 la4, .int .u8 la5, .int .u8 la6, .int .u8 la7, .int .u8 la8, .int .u8 la9, .int .u8 la10, .int .u8 la11, .int .u8 la12, .int .u8 la13, .int .u8 la14, .int .u8 la15, .int .u8 la16, .int .u8 la17, .int .u8 la18, .int .u8 la19], .c (.v (.int .u64 lc3)), .c (.v (.int .u64 lc4)), .r 4 [.int .u64 ly0, .int .u64 ly1, .int .u64 ly2, .int .u64 ly3], .r 4 [.int .u64 lz0, .int .u64 lz1, .int .u64 lz2, .int .u64 lz3]] := by rw [hX, hpi]; rw [← hrx]; simp [hx]
        have ry : Y[pi.toNat]? = some [.r 4 [.int .u64 rx0, .int .u64 rx1, .int .u64 rx2, .int .u64 rx3], .r 20 [.int .u8 ra0, .int .u8 ra1, .int .u8 ra2, .int .u8 ra3, .int .u8 ra4, .int .u8 ra5, .int .u8 ra6, .int .u8 ra7, .int .u8 ra8, .int .u8 ra9, .int .u8 ra10, .int .u8 ra11, .int .u8 ra12, .int .u8 ra13, .int .u8 ra14, .int .u8 ra15, .int .u8 ra16, .int .u8 ra17, .int .u8 ra18, .int .u8 ra19], .c (.v (.int .u64 rc3)), .c (.v (.int .u64 rc4)), .r 4 [.int .u64 ry0, .int .u64 ry1, .int .u64 ry2, .int .u64 ry3], .r 4 [.int .u64 rz0, .int .u64 rz1, .int .u64 rz2, .int .u64 rz3]] := by rw [hY, hpi]; rw [← hry]; simp [hy]
        conv => cbv
        refine ⟨by rw [har]; kernel_rfl, ?_⟩
        refine ⟨_, by omega, rx, rfl, ?_⟩
        conv => cbv
        refine ⟨_, by omega, ry, rfl, ?_⟩
        conv => cbv
        refine ⟨c, fun _ => ⟨hox, hoy, hc⟩, ?_⟩
        conv => cbv
        refine ⟨fun h2 => ?_, fun h2 => ?_⟩
        · have hxy : x ≠ y := fun e => by
            have h3 := nbT har h2
            rw [hce.2 e] at h3; cases h3
          have hk := hno (fun e => hxy (by rw [e] at hx; rw [hx] at hy; exact Option.some.inj hy))
          conv => cbv
          exact hk
        · have hxy : x = y := hce.1 (nbF har h2)
          have hs2 : xs.take (p + 1) = ys.take (p + 1) := by rw [List.take_add_one, List.take_add_one, hx, hy, hsame, hxy]
          conv => cbv
          refine ⟨⟨(p + 1, ar.ib .add .i64 pi 1), hlt, iSucc har hpi (by omega), hs2⟩, ?_, ?_⟩
          · dsimp only
            conv => cbv
            simp
          · show xs.length - (p + 1) < xs.length - p
            omega
      · have g' := cNlt har (b := ar.len X) h
        have hpe : p = xs.length := by omega
        have hk := hyes (by rw [hpe, List.take_length, hll, List.take_length] at hsame; exact hsame)
        conv => cbv
        exact hk

end Go.Eng
namespace Go.Eng
open Go Go.Proofs
set_option maxRecDepth 100000
set_option maxHeartbeats 4000000
set_option linter.unusedVariables false

theorem entEq_sound : Sound Tryd.prog 32 fun args k => ∃ (x y : Ent) (b : Bool), args = [.a x.row, .a y.row] ∧ x.ks.length ≤ 2 ^ 40 ∧ (b = true ↔ x.cor = y.cor) ∧ k [.s (.v (.bool b))] := by
  refine Sound.of_body tt_ok ent_ok Tryd.func32 rfl ?_
  rintro ar har Γ hΓ args k ⟨⟨xa, xk, xs⟩, ⟨ya, yk, ys⟩, b, hargs, hl, hb, hk⟩
  obtain ⟨xv, hxv⟩ : ∃ v, v = u8s xa := ⟨_, rfl⟩
  obtain ⟨yv, hyv⟩ : ∃ v, v = u8s ya := ⟨_, rfl⟩
  obtain ⟨xl, hxl⟩ : ∃ v, v = xk.map key := ⟨_, rfl⟩
  obtain ⟨yl, hyl⟩ : ∃ v, v = yk.map key := ⟨_, rfl⟩
  have hno : xa ≠ ya → k [.s (.v (.bool false))] := fun h => by
    have : b = false := by
      cases b with
      | false => rfl
      | true => exact absurd (congrArg Ent.a (hb.1 rfl)) h
    rw [this] at hk; exact hk
  obtain ⟨c, hc⟩ : ∃ c : Bool, (c = true ↔ xk = yk) := ⟨decide (xk = yk), by simp⟩
  have hyes : xa = ya → k [.s (.v (.bool c))] := fun h => by
    have : b = c := by
      rw [Bool.eq_iff_iff, hb, hc]
      constructor
      · intro e; exact congrArg Ent.ks e
      · intro e; rw [Ent.cor, Ent.cor]; simp [h, e]
    rw [this] at hk; exact hk
  have e1 : (Ent.mk xa xk xs).row = [.r 20 xv, .c (.sl xl xs)] := by rw [hxv, hxl]; rfl
  have e2 : (Ent.mk ya yk ys).row = [.r 20 yv, .c (.sl yl ys)] := by rw [hyv, hyl]; rfl
  rw [e1, e2] at hargs
  clear hk e1 e2
  subst hargs
  conv => cbv
  refine ⟨fun _ => ⟨by rw [hxv]; exact ints_u8s _, by rw [hyv]; exact ints_u8s _⟩, fun h => ?_, fun h => ?_⟩
  · have hx : xa = ya := by
      have h3 : ar.eqv xv yv = true := h
      rw [eqvIs har, hxv, hyv, eqVals_u8s] at h3; simpa using h3
    have hk := hyes hx
    conv => cbv
    refine call_by hΓ slEqH_sound ⟨xk, yk, xs, ys, c, by rw [hxl, hyl], hl, fun _ _ => trivial, fun _ _ => trivial, hc, ?_⟩
    conv => cbv
    exact hk
  · have hx : xa ≠ ya := fun e => by
      have h3 : ar.eqv xv yv = false := h
      rw [eqvIs har, hxv, hyv, eqVals_u8s, e] at h3; simp at h3
    have hk := hno hx
    conv => cbv
    exact hk

theorem eqFunc_sound : Sound Tryd.prog 31 fun args k => ∃ (xs ys : List Ent) (s t : List (List PS)) (b : Bool), args = [.s (.sl (xs.map Ent.row) s), .s (.sl (ys.map Ent.row) t), .s (.v (.func (.func 32) #[] #[]))] ∧ xs.length ≤ 2 ^ 40 ∧
    (∀ x ∈ xs, x.ks.length ≤ 2 ^ 40) ∧ (b = true ↔ xs.map Ent.cor = ys.map Ent.cor) ∧ k [.s (.v (.bool b))] := by
  refine Sound.of_body tt_ok ent_ok Tryd.func31 rfl ?_
  rintro ar har Γ hΓ args k ⟨xs, ys, s, t, b, hargs, hl, hks, hb, hk⟩
  obtain ⟨X, hX⟩ : ∃ X, X = xs.map Ent.row := ⟨_, rfl⟩
  obtain ⟨Y, hY⟩ : ∃ Y, Y = ys.map Ent.row := ⟨_, rfl⟩
  have hXl : ar.len X = (xs.length : Int) := by rw [lenIs har, hX, List.length_map]
  have hYl : ar.len Y = (ys.length : Int) := by rw [lenIs har, hY, List.length_map]
  have hno : xs.map Ent.cor ≠ ys.map Ent.cor → k [.s (.v (.bool false))] := fun h => by
    have : b = false := by
      cases b with
      | false => rfl
      | true => exact absurd (hb.1 rfl) h
    rw [this] at hk; exact hk
  have hyes : xs.map Ent.cor = ys.map Ent.cor → k [.s (.v (.bool true))] := fun h => by rw [hb.2 h] at hk; exact hk
  rw [← hX, ← hY] at hargs
  clear hk
  subst hargs
  conv => cbv
  refine ⟨fun h => ?_, fun h => ?_⟩
  · have g := cNe har (a := ar.len X) (b := ar.len Y) h
    have hk := hno (fun e => g (by rw [hXl, hYl]; have := congrArg List.length e; simp at this; omega))
    conv => cbv
    exact hk
  · have g := cNne har (a := ar.len X) (b := ar.len Y) h
    have hll : xs.length = ys.length := by omega
    conv => cbv
    refine .inr ⟨{ q : Nat × Int // q.1 ≤ xs.length ∧ q.2 = q.1 ∧ (xs.take q.1).map Ent.cor = (ys.take q.1).map Ent.cor },
      fun q => ⟨mk 32 [(1, .s (.p (.sl Y t))), (2, .s (.p (.v (.func (.func 32) #[] #[])))), (15, .s (.p (.sl X s))), (16, pint (ar.len X)), (17, pint q.1.2)], []⟩,
      fun q => xs.length - q.1.1, [], _, ⟨(0, 0), Nat.zero_le _, rfl, rfl⟩, rfl, ?_, ?_⟩
    · conv => cbv
      simp
    · rintro ⟨⟨p, pi⟩, hq⟩
      have hp : p ≤ xs.length := hq.1
      have hpi : pi = (p : Int) := hq.2.1
      have hsame : (xs.take p).map Ent.cor = (ys.take p).map Ent.cor := hq.2.2
      dsimp only
      conv => cbv
      refine ⟨fun h => ?_, fun h => ?_⟩
      · have g' := cLt har (b := ar.len X) h
        have hlt : p < xs.length := by omega
        obtain ⟨x, hx⟩ : ∃ x, xs[p]? = some x := ⟨_, List.getElem?_eq_getElem hlt⟩
        obtain ⟨y, hy⟩ : ∃ y, ys[p]? = some y := ⟨_, List.getElem?_eq_getElem (by omega)⟩
        have hxk := hks x (List.mem_of_getElem? hx)
        obtain ⟨xa, xk, xs1⟩ := x
        obtain ⟨ya, yk, ys1⟩ := y
        obtain ⟨xv, hxv⟩ : ∃ v, v = u8s xa := ⟨_, rfl⟩
        obtain ⟨yv, hyv⟩ : ∃ v, v = u8s ya := ⟨_, rfl⟩
        obtain ⟨xl, hxl⟩ : ∃ v, v = xk.map key := ⟨_, rfl⟩
        obtain ⟨yl, hyl⟩ : ∃ v, v = yk.map key := ⟨_, rfl⟩
        have rx : X[pi.toNat]? = some [.r 20 xv, .c (.sl xl xs1)] := by rw [hX, hpi]; simp [hx, Ent.row, hxv, hxl]
        have ry : Y[pi.toNat]? = some [.r 20 yv, .c (.sl yl ys1)] := by rw [hY, hpi]; simp [hy, Ent.row, hyv, hyl]
        obtain ⟨c, hc⟩ : ∃ c : Bool, (c = true ↔ (Ent.mk xa xk xs1).cor = (Ent.mk ya yk ys1).cor) := by
          by_cases e : (Ent.mk xa xk xs1).cor = (Ent.mk ya yk ys1).cor
          · exact ⟨true, by simp [e]⟩
          · exact ⟨false, by simp [e]⟩
        conv => cbv
        refine ⟨_, by omega, rx, rfl, ?_⟩
        conv => cbv
        refine ⟨_, by omega, ry, rfl, ?_⟩
        conv => cbv
        refine call_by hΓ entEq_sound ⟨⟨xa, xk, xs1⟩, ⟨ya, yk, ys1⟩, c, by rw [hxv, hyv, hxl, hyl]; rfl, hxk, hc, ?_⟩
        conv => cbv
        refine ⟨fun h2 => ?_, fun h2 => ?_⟩
        · have h3 := nbT har h2
          have hk := hno (fun e => by
            have e2 : (xs.map Ent.cor)[p]? = (ys.map Ent.cor)[p]? := by rw [e]
            rw [List.getElem?_map, List.getElem?_map, hx, hy] at e2
            rw [hc.2 (Option.some.inj e2)] at h3; cases h3)
          conv => cbv
          exact hk
        · have h3 := hc.1 (nbF har h2)
          have hs2 : (xs.take (p + 1)).map Ent.cor = (ys.take (p + 1)).map Ent.cor := by
            rw [List.take_add_one, List.take_add_one, hx, hy, List.map_append, List.map_append, hsame]
            simp [h3]
          conv => cbv
          refine ⟨⟨(p + 1, ar.ib .add .i64 pi 1), hlt, iSucc har hpi (by omega), hs2⟩, ?_, ?_⟩
          · dsimp only
            conv => cbv
            simp
          · show xs.length - (p + 1) < xs.length - p
            omega
      · have g' := cNlt har (b := ar.len X) h
        have hpe : p = xs.length := by omega
        have hk := hyes (by rw [hpe, List.take_length, hll, List.take_length] at hsame; exact hsame)
        conv => cbv
        exact hk
end Go.Eng
namespace Go.Eng
open Go Go.Proofs
set_option maxRecDepth 100000
set_option maxHeartbeats 8000000
set_option linter.unusedVariables false

theorem txSame_sound : Sound Tryd.prog 13 fun args k => ∃ (t u : Tx) (b : Bool), args = [.a t.row, .a u.row] ∧ t.ok ∧ u.ok ∧ t.small ∧ (b = true ↔ t.core = u.core) ∧ k [.s (.v (.bool b))] := by
  refine Sound.of_body tt_ok ent_ok Tryd.func13 rfl ?_
  rintro ar har Γ hΓ args k ⟨⟨tty, tch, tno, tpr, tti, tca, tga, tcr, tto, tva, td, tsd, tac, tsac, tbc, tbl, tsbl, tau, tsau, tv, tr, ts⟩, ⟨uty, uch, uno, upr, uti, uca, uga, ucr, uto, uva, ud, usd, uac, usac, ubc, ubl, usbl, uau, usau, uv, ur, us⟩, b, hargs, hto, huo, hts, hb, hk⟩

  obtain ⟨tWpr, thWpr⟩ : ∃ x, x = w4 tpr := ⟨_, rfl⟩
  obtain ⟨tWti, thWti⟩ : ∃ x, x = w4 tti := ⟨_, rfl⟩
  obtain ⟨tWca, thWca⟩ : ∃ x, x = w4 tca := ⟨_, rfl⟩
  obtain ⟨tWva, thWva⟩ : ∃ x, x = w4 tva := ⟨_, rfl⟩
  obtain ⟨tWbc, thWbc⟩ : ∃ x, x = w4 tbc := ⟨_, rfl⟩
  obtain ⟨tWv, thWv⟩ : ∃ x, x = w4 tv := ⟨_, rfl⟩
  obtain ⟨tWr, thWr⟩ : ∃ x, x = w4 tr := ⟨_, rfl⟩
  obtain ⟨tWs, thWs⟩ : ∃ x, x = w4 ts := ⟨_, rfl⟩
  obtain ⟨tWto, thWto⟩ : ∃ x, x = u8s tto := ⟨_, rfl⟩
  obtain ⟨tD, thD⟩ : ∃ x, x = td.map b8' := ⟨_, rfl⟩
  obtain ⟨tA, thA⟩ : ∃ x, x = tac.map Ent.row := ⟨_, rfl⟩
  obtain ⟨tB, thB⟩ : ∃ x, x = tbl.map key := ⟨_, rfl⟩
  obtain ⟨tU, thU⟩ : ∃ x, x = tau.map Au.row := ⟨_, rfl⟩
  obtain ⟨tIch, thIch⟩ : ∃ x : Int, x = (tch : Int) := ⟨_, rfl⟩
  obtain ⟨tIno, thIno⟩ : ∃ x : Int, x = (tno : Int) := ⟨_, rfl⟩
  obtain ⟨tIga, thIga⟩ : ∃ x : Int, x = (tga : Int) := ⟨_, rfl⟩
  obtain ⟨uWpr, uhWpr⟩ : ∃ x, x = w4 upr := ⟨_, rfl⟩
  obtain ⟨uWti, uhWti⟩ : ∃ x, x = w4 uti := ⟨_, rfl⟩
  obtain ⟨uWca, uhWca⟩ : ∃ x, x = w4 uca := ⟨_, rfl⟩
  obtain ⟨uWva, uhWva⟩ : ∃ x, x = w4 uva := ⟨_, rfl⟩
  obtain ⟨uWbc, uhWbc⟩ : ∃ x, x = w4 ubc := ⟨_, rfl⟩
  obtain ⟨uWv, uhWv⟩ : ∃ x, x = w4 uv := ⟨_, rfl⟩
  obtain ⟨uWr, uhWr⟩ : ∃ x, x = w4 ur := ⟨_, rfl⟩
  obtain ⟨uWs, uhWs⟩ : ∃ x, x = w4 us := ⟨_, rfl⟩
  obtain ⟨uWto, uhWto⟩ : ∃ x, x = u8s uto := ⟨_, rfl⟩
  obtain ⟨uD, uhD⟩ : ∃ x, x = ud.map b8' := ⟨_, rfl⟩
  obtain ⟨uA, uhA⟩ : ∃ x, x = uac.map Ent.row := ⟨_, rfl⟩
  obtain ⟨uB, uhB⟩ : ∃ x, x = ubl.map key := ⟨_, rfl⟩
  obtain ⟨uU, uhU⟩ : ∃ x, x = uau.map Au.row := ⟨_, rfl⟩
  obtain ⟨uIch, uhIch⟩ : ∃ x : Int, x = (uch : Int) := ⟨_, rfl⟩
  obtain ⟨uIno, uhIno⟩ : ∃ x : Int, x = (uno : Int) := ⟨_, rfl⟩
  obtain ⟨uIga, uhIga⟩ : ∃ x : Int, x = (uga : Int) := ⟨_, rfl⟩
  have trow : Tx.row ⟨tty, tch, tno, tpr, tti, tca, tga, tcr, tto, tva, td, tsd, tac, tsac, tbc, tbl, tsbl, tau, tsau, tv, tr, ts⟩ = [.c (.v (.int .i64 tty)), .c (.v (.int .u64 tIch)), .c (.v (.int .u64 tIno)), .r 4 tWpr, .r 4 tWti, .r 4 tWca, .c (.v (.int .u64 tIga)), .c (.v (.bool tcr)), .r 20 tWto, .r 4 tWva, .c (.sl tD tsd), .c (.sl tA tsac), .r 4 tWbc, .c (.sl tB tsbl), .c (.sl tU tsau), .r 4 tWv, .r 4 tWr, .r 4 tWs] := by rw [thWpr, thWti, thWca, thWva, thWbc, thWv, thWr, thWs, thWto, thD, thA, thB, thU, thIch, thIno, thIga]; rfl
  have urow : Tx.row ⟨uty, uch, uno, upr, uti, uca, uga, ucr, uto, uva, ud, usd, uac, usac, ubc, ubl, usbl, uau, usau, uv, ur, us⟩ = [.c (.v (.int .i64 uty)), .c (.v (.int .u64 uIch)), .c (.v (.int .u64 uIno)), .r 4 uWpr, .r 4 uWti, .r 4 uWca, .c (.v (.int .u64 uIga)), .c (.v (.bool ucr)), .r 20 uWto, .r 4 uWva, .c (.sl uD usd), .c (.sl uA usac), .r 4 uWbc, .c (.sl uB usbl), .c (.sl uU usau), .r 4 uWv, .r 4 uWr, .r 4 uWs] := by rw [uhWpr, uhWti, uhWca, uhWva, uhWbc, uhWv, uhWr, uhWs, uhWto, uhD, uhA, uhB, uhU, uhIch, uhIno, uhIga]; rfl
  rw [trow, urow] at hargs
  have hno : Tx.core ⟨tty, tch, tno, tpr, tti, tca, tga, tcr, tto, tva, td, tsd, tac, tsac, tbc, tbl, tsbl, tau, tsau, tv, tr, ts⟩ ≠ Tx.core ⟨uty, uch, uno, upr, uti, uca, uga, ucr, uto, uva, ud, usd, uac, usac, ubc, ubl, usbl, uau, usau, uv, ur, us⟩ → k [.s (.v (.bool false))] := fun h => by
    have : b = false := by
      cases b with
      | false => rfl
      | true => exact absurd (hb.1 rfl) h
    rw [this] at hk; exact hk
  have hyes : Tx.core ⟨tty, tch, tno, tpr, tti, tca, tga, tcr, tto, tva, td, tsd, tac, tsac, tbc, tbl, tsbl, tau, tsau, tv, tr, ts⟩ = Tx.core ⟨uty, uch, uno, upr, uti, uca, uga, ucr, uto, uva, ud, usd, uac, usac, ubc, ubl, usbl, uau, usau, uv, ur, us⟩ → k [.s (.v (.bool true))] := fun h => by rw [hb.2 h] at hk; exact hk
  clear hk
  clear trow urow
  subst hargs
  conv => cbv

  refine ⟨fun h => ?_, fun h => ?_⟩
  rotate_left
  · have hx : tty ≠ uty := fun e => (cNe har h) (by rw [e])
    have hk := hno (fun e => hx (congrArg Tx.ty e))
    conv => cbv
    exact hk
  have ety : tty = uty := by
    have h3 := cNne har h
    exact h3
  conv => cbv
  refine ⟨fun h => ?_, fun h => ?_⟩
  rotate_left
  · have hx : tch ≠ uch := fun e => (cNe har h) (by rw [thIch, uhIch, e])
    have hk := hno (fun e => hx (congrArg Tx.ch e))
    conv => cbv
    exact hk
  have ech : tch = uch := by
    have h3 := cNne har h
    rw [thIch, uhIch] at h3; omega
  conv => cbv
  refine ⟨fun h => ?_, fun h => ?_⟩
  rotate_left
  · have hx : tno ≠ uno := fun e => (cNe har h) (by rw [thIno, uhIno, e])
    have hk := hno (fun e => hx (congrArg Tx.no e))
    conv => cbv
    exact hk
  have eno : tno = uno := by
    have h3 := cNne har h
    rw [thIno, uhIno] at h3; omega
  conv => cbv
  refine ⟨fun _ => ⟨by rw [thWpr]; exact intsW4 _, by rw [uhWpr]; exact intsW4 _⟩, fun h => ?_, fun h => ?_⟩
  rotate_left
  · have hx : tpr ≠ upr := fun e => by
      have h3 : ar.eqv tWpr uWpr = false := nbT har h
      rw [eqvIs har, thWpr, uhWpr, e, eqV4 huo.pr huo.pr] at h3; simp at h3
    have hk := hno (fun e => hx (congrArg Tx.pr e))
    conv => cbv
    exact hk
  have epr : tpr = upr := by
    have h3 : ar.eqv tWpr uWpr = true := nbF har h
    rw [eqvIs har, thWpr, uhWpr, eqV4 hto.pr huo.pr] at h3; simpa using h3
  conv => cbv
  refine ⟨fun _ => ⟨by rw [thWti]; exact intsW4 _, by rw [uhWti]; exact intsW4 _⟩, fun h => ?_, fun h => ?_⟩
  rotate_left
  · have hx : tti ≠ uti := fun e => by
      have h3 : ar.eqv tWti uWti = false := nbT har h
      rw [eqvIs har, thWti, uhWti, e, eqV4 huo.ti huo.ti] at h3; simp at h3
    have hk := hno (fun e => hx (congrArg Tx.ti e))
    conv => cbv
    exact hk
  have eti : tti = uti := by
    have h3 : ar.eqv tWti uWti = true := nbF har h
    rw [eqvIs har, thWti, uhWti, eqV4 hto.ti huo.ti] at h3; simpa using h3
  conv => cbv
  refine ⟨fun _ => ⟨by rw [thWca]; exact intsW4 _, by rw [uhWca]; exact intsW4 _⟩, fun h => ?_, fun h => ?_⟩
  rotate_left
  · have hx : tca ≠ uca := fun e => by
      have h3 : ar.eqv tWca uWca = false := nbT har h
      rw [eqvIs har, thWca, uhWca, e, eqV4 huo.ca huo.ca] at h3; simp at h3
    have hk := hno (fun e => hx (congrArg Tx.ca e))
    conv => cbv
    exact hk
  have eca : tca = uca := by
    have h3 : ar.eqv tWca uWca = true := nbF har h
    rw [eqvIs har, thWca, uhWca, eqV4 hto.ca huo.ca] at h3; simpa using h3
  conv => cbv
  refine ⟨fun h => ?_, fun h => ?_⟩
  rotate_left
  · have hx : tga ≠ uga := fun e => (cNe har h) (by rw [thIga, uhIga, e])
    have hk := hno (fun e => hx (congrArg Tx.ga e))
    conv => cbv
    exact hk
  have ega : tga = uga := by
    have h3 := cNne har h
    rw [thIga, uhIga] at h3; omega
  conv => cbv
  refine ⟨fun h => ?_, fun h => ?_⟩
  rotate_left
  · have hx : tcr ≠ ucr := fun e => by
      have h3 : ar.bb .neq tcr ucr = true := h
      rw [bbnIs har, e] at h3; simp at h3
    have hk := hno (fun e => hx (congrArg Tx.cr e))
    conv => cbv
    exact hk
  have ecr : tcr = ucr := by
    have h3 : ar.bb .neq tcr ucr = false := h
    rw [bbnIs har] at h3; simpa using h3
  conv => cbv
  refine ⟨fun _ => ⟨by rw [thWto]; exact ints_u8s _, by rw [uhWto]; exact ints_u8s _⟩, fun h => ?_, fun h => ?_⟩
  · have hx : tto ≠ uto := fun e => by
      have h3 : ar.eqv tWto uWto = false := nbT har h
      rw [eqvIs har, thWto, uhWto, eqVals_u8s, e] at h3; simp at h3
    have hk := hno (fun e => hx (congrArg Tx.to e))
    conv => cbv
    exact hk
  have eto : tto = uto := by
    have h3 : ar.eqv tWto uWto = true := nbF har h
    rw [eqvIs har, thWto, uhWto, eqVals_u8s] at h3; simpa using h3
  conv => cbv
  refine ⟨fun _ => ⟨by rw [thWva]; exact intsW4 _, by rw [uhWva]; exact intsW4 _⟩, fun h => ?_, fun h => ?_⟩
  rotate_left
  · have hx : tva ≠ uva := fun e => by
      have h3 : ar.eqv tWva uWva = false := nbT har h
      rw [eqvIs har, thWva, uhWva, e, eqV4 huo.va huo.va] at h3; simp at h3
    have hk := hno (fun e => hx (congrArg Tx.va e))
    conv => cbv
    exact hk
  have eva : tva = uva := by
    have h3 : ar.eqv tWva uWva = true := nbF har h
    rw [eqvIs har, thWva, uhWva, eqV4 hto.va huo.va] at h3; simpa using h3
  conv => cbv
  refine ⟨fun _ => ⟨by rw [thWbc]; exact intsW4 _, by rw [uhWbc]; exact intsW4 _⟩, fun h => ?_, fun h => ?_⟩
  rotate_left
  · have hx : tbc ≠ ubc := fun e => by
      have h3 : ar.eqv tWbc uWbc = false := nbT har h
      rw [eqvIs har, thWbc, uhWbc, e, eqV4 huo.bc huo.bc] at h3; simp at h3
    have hk := hno (fun e => hx (congrArg Tx.bc e))
    conv => cbv
    exact hk
  have ebc : tbc = ubc := by
    have h3 : ar.eqv tWbc uWbc = true := nbF har h
    rw [eqvIs har, thWbc, uhWbc, eqV4 hto.bc huo.bc] at h3; simpa using h3
  conv => cbv
  refine ⟨fun _ => ⟨by rw [thWv]; exact intsW4 _, by rw [uhWv]; exact intsW4 _⟩, fun h => ?_, fun h => ?_⟩
  rotate_left
  · have hx : tv ≠ uv := fun e => by
      have h3 : ar.eqv tWv uWv = false := nbT har h
      rw [eqvIs har, thWv, uhWv, e, eqV4 huo.v huo.v] at h3; simp at h3
    have hk := hno (fun e => hx (congrArg Tx.v e))
    conv => cbv
    exact hk
  have ev : tv = uv := by
    have h3 : ar.eqv tWv uWv = true := nbF har h
    rw [eqvIs har, thWv, uhWv, eqV4 hto.v huo.v] at h3; simpa using h3
  conv => cbv
  refine ⟨fun _ => ⟨by rw [thWr]; exact intsW4 _, by rw [uhWr]; exact intsW4 _⟩, fun h => ?_, fun h => ?_⟩
  rotate_left
  · have hx : tr ≠ ur := fun e => by
      have h3 : ar.eqv tWr uWr = false := nbT har h
      rw [eqvIs har, thWr, uhWr, e, eqV4 huo.r huo.r] at h3; simp at h3
    have hk := hno (fun e => hx (congrArg Tx.r e))
    conv => cbv
    exact hk
  have er : tr = ur := by
    have h3 : ar.eqv tWr uWr = true := nbF har h
    rw [eqvIs har, thWr, uhWr, eqV4 hto.r huo.r] at h3; simpa using h3
  conv => cbv
  refine ⟨fun _ => ⟨by rw [thWs]; exact intsW4 _, by rw [uhWs]; exact intsW4 _⟩, fun h => ?_, fun h => ?_⟩
  rotate_left
  · have hx : ts ≠ us := fun e => by
      have h3 : ar.eqv tWs uWs = false := nbT har h
      rw [eqvIs har, thWs, uhWs, e, eqV4 huo.s huo.s] at h3; simp at h3
    have hk := hno (fun e => hx (congrArg Tx.s e))
    conv => cbv
    exact hk
  have es : ts = us := by
    have h3 : ar.eqv tWs uWs = true := nbF har h
    rw [eqvIs har, thWs, uhWs, eqV4 hto.s huo.s] at h3; simpa using h3
  conv => cbv
  obtain ⟨bd, hbd⟩ : ∃ b : Bool, (b = true ↔ td = ud) := by
    by_cases e : td = ud
    · exact ⟨true, by simp [e]⟩
    · exact ⟨false, by simp [e]⟩
  refine call_by hΓ slEqB_sound ⟨td, ud, tsd, usd, bd, by rw [thD, uhD], by have h5 := hts.d; simp only at h5; omega, fun _ _ => trivial, fun _ _ => trivial, hbd, ?_⟩
  conv => cbv
  refine ⟨fun h => ?_, fun h => ?_⟩
  rotate_left
  · have hx : td ≠ ud := fun e => by
      have h3 := nbT har h; rw [hbd.2 e] at h3; cases h3
    have hk := hno (fun e => hx (congrArg Tx.d e))
    conv => cbv
    exact hk
  have ed : td = ud := hbd.1 (nbF har h)
  conv => cbv
  obtain ⟨bbl, hbbl⟩ : ∃ b : Bool, (b = true ↔ tbl = ubl) := by
    by_cases e : tbl = ubl
    · exact ⟨true, by simp [e]⟩
    · exact ⟨false, by simp [e]⟩
  refine call_by hΓ slEqH_sound ⟨tbl, ubl, tsbl, usbl, bbl, by rw [thB, uhB], by have h5 := hts.bl; simp only at h5; omega, fun _ _ => trivial, fun _ _ => trivial, hbbl, ?_⟩
  conv => cbv
  refine ⟨fun h => ?_, fun h => ?_⟩
  rotate_left
  · have hx : tbl ≠ ubl := fun e => by
      have h3 := nbT har h; rw [hbbl.2 e] at h3; cases h3
    have hk := hno (fun e => hx (congrArg Tx.bl e))
    conv => cbv
    exact hk
  have ebl : tbl = ubl := hbbl.1 (nbF har h)
  conv => cbv
  obtain ⟨bau, hbau⟩ : ∃ b : Bool, (b = true ↔ tau = uau) := by
    by_cases e : tau = uau
    · exact ⟨true, by simp [e]⟩
    · exact ⟨false, by simp [e]⟩
  refine call_by hΓ slEqU_sound ⟨tau, uau, tsau, usau, bau, by rw [thU, uhU], by have h5 := hts.au; simp only at h5; omega, hto.au, huo.au, hbau, ?_⟩
  conv => cbv
  refine ⟨fun h => ?_, fun h => ?_⟩
  · have hx : tau ≠ uau := fun e => by
      have h3 := nbT har h; rw [hbau.2 e] at h3; cases h3
    have hk := hno (fun e => hx (congrArg Tx.au e))
    conv => cbv
    exact hk
  have eau : tau = uau := hbau.1 (nbF har h)
  conv => cbv
  obtain ⟨bac, hbac⟩ : ∃ b : Bool, (b = true ↔ tac.map Ent.cor = uac.map Ent.cor) := by
    by_cases e : tac.map Ent.cor = uac.map Ent.cor
    · exact ⟨true, by simp [e]⟩
    · exact ⟨false, by simp [e]⟩
  have hk : k [.s (.v (.bool bac))] := by
    cases hba : bac with
    | true => exact hyes (by simp only [Tx.core]; rw [hbac.1 hba]; simp only [Tx.mk.injEq]; exact ⟨ety, ech, eno, epr, eti, eca, ega, ecr, eto, eva, ed, trivial, trivial, trivial, ebc, ebl, trivial, eau, trivial, ev, er, es⟩)
    | false => exact hno (fun e => by rw [hbac.2 (congrArg Tx.ac e)] at hba; cases hba)
  refine call_by hΓ eqFunc_sound ⟨tac, uac, tsac, usac, bac, by rw [thA, uhA], by have h5 := hts.ac; simp only at h5; omega, fun e he => by have h5 := hts.ks e he; omega, hbac, ?_⟩
  conv => cbv
  exact hk
end Go.Eng
namespace Go.Eng
open Go Go.Proofs
set_option maxRecDepth 100000
set_option maxHeartbeats 4000000
set_option linter.unusedVariables false

theorem b8'_all (d : List Int) : ∀ y ∈ d.map b8', rlen y = 1 := fun y hy => by
  rw [List.mem_map] at hy; obtain ⟨x, _, rfl⟩ := hy; rfl
theorem key_all (d : List (List Int)) : ∀ y ∈ d.map key, rlen y = 32 := fun y hy => by
  rw [List.mem_map] at hy; obtain ⟨x, _, rfl⟩ := hy; rfl

theorem playCopy_sound : Sound Tryd.prog 69 fun args k => ∃ (d : List Int) (sd : List (List PS)), args = [.s (.sl (d.map b8') sd)] ∧ d.length ≤ 2 ^ 40 ∧ k [.s (.ow (d.map b8') 5 1 1)] := by
  refine Sound.of_bodyO [] 0 tt_ok ent_ok Tryd.func69 rfl ?_
  rintro ar har Γ hΓ args k ⟨d, sd, rfl, hl, hk⟩
  obtain ⟨D, hD⟩ : ∃ D, D = d.map b8' := ⟨_, rfl⟩
  have hD1 : ∀ y ∈ D, rlen y = 1 := by rw [hD]; exact b8'_all d
  have hD2 : D.length = d.length := by rw [hD, List.length_map]
  have hap : ar.app [] D = D := by rw [appIs har]; rfl
  rw [← hD] at hk ⊢
  rw [← hap] at hk
  conv => cbv
  refine ⟨fun _ => ⟨?_, hD1⟩, ?_⟩
  · show (0 + D.length) * 1 ≤ 140737488355328
    omega
  · conv => cbv
    exact hk

def a5 : List PS := [.c (.v (.int .u8 165))]
theorem playLent_sound : Sound Tryd.prog 45 fun args k => ∃ (d : List Int) (sd : List (List PS)), args = [.s (.sl (d.map b8') sd)] ∧ d.length ≤ 2 ^ 40 ∧ k [.s (.sl (d.map b8') (List.replicate 70 a5))] := by
  refine Sound.of_body tt_ok ent_ok Tryd.func45 rfl ?_
  rintro ar har Γ hΓ args k ⟨d, sd, hargs, hl, hk⟩
  obtain ⟨D, hD⟩ : ∃ D, D = d.map b8' := ⟨_, rfl⟩
  have hDl : ar.len D = (d.length : Int) := by rw [lenIs har, hD, List.length_map]
  have hDn : D.length = d.length := by rw [hD, List.length_map]
  obtain ⟨R, hR⟩ : ∃ R, R = List.replicate 70 a5 := ⟨_, rfl⟩
  rw [← hD, ← hR] at hk
  have callC : ∀ (Γ : Ctx) (d' : Nat) (k : List PR → Prop) (R : Prop), Γ = ctx Tryd.prog d' → k [.s (.ow D 5 1 1)] → Γ.g 69 [.s (.sl D sd)] k ∨ R := fun Γ d' k R hΓ hk => call_by hΓ playCopy_sound ⟨d, sd, by rw [hD], hl, by rw [← hD]; exact hk⟩
  rw [← hD] at hargs
  subst hargs
  conv => cbv
  refine callC _ _ _ _ hΓ ?_
  conv => cbv
  refine .inr ⟨{ q : Nat × Int × List (List PS) // q.1 ≤ 70 ∧ q.2.1 = q.1 ∧ q.2.2 = D ++ List.replicate q.1 a5 },
    fun q => ⟨mk 18 [(0, .s (.p (.sl D sd))), (3, .s (.own 0)), (4, pint q.1.2.1)], [.arr q.1.2.2 5 1 1 true]⟩,
    fun q => 70 - q.1.1, [], _, ⟨(0, 0, D), Nat.zero_le _, rfl, by simp⟩, rfl, ?_, ?_⟩
  · conv => cbv
    simp
  · rintro ⟨⟨p, pi, L⟩, hq⟩
    have hp : p ≤ 70 := hq.1
    have hpi : pi = (p : Int) := hq.2.1
    have hL : L = D ++ List.replicate p a5 := hq.2.2
    have hLl : L.length = d.length + p := by rw [hL, List.length_append, List.length_replicate, hDn]
    dsimp only
    conv => cbv
    refine ⟨fun h => ?_, fun h => ?_⟩
    · have g' := cLt har (b := 70) h
      have hlt : p < 70 := by omega
      have hL2 : ar.app L [[.c (.v (.int .u8 165))]] = D ++ List.replicate (p + 1) a5 := by
        rw [appIs har, hL, List.append_assoc, List.replicate_succ']; rfl
      have s1 : (L.length + 1) * 1 ≤ 140737488355328 ∧ ∀ y ∈ [[PS.c (.v (.int .u8 165))]], rlen y = 1 := ⟨by omega, by simp [rlen, PS.len]⟩
      conv => cbv
      refine ⟨fun _ => s1, ?_⟩
      refine ⟨⟨(p + 1, ar.ib .add .i64 pi 1, ar.app L [[.c (.v (.int .u8 165))]]), hlt, iSucc har hpi (by omega), hL2⟩, ?_, ?_⟩
      · dsimp only
        conv => cbv
        simp
      · show 70 - (p + 1) < 70 - p
        omega
    · have g' := cNlt har (b := 70) h
      have hpe : p = 70 := by omega
      subst hpe
      have e1 : ar.mid L 0 (ar.nat (ar.len D)) = D := by rw [natOf har hDl, midIs har, hL, ← hDn]; simp
      have e2 : ar.frm L (ar.nat (ar.len D)) = R := by rw [natOf har hDl, frmIs har, hL, ← hDn, hR]; simp
      rw [← e1, ← e2] at hk
      have b1 : 0 ≤ ar.len D ∧ ar.len D ≤ ((L.length + 0 : Nat) : Int) := by rw [hDl]; omega
      conv => cbv
      exact .inr ⟨fun _ => b1, hk⟩

def mkH : List Int := 165 :: 90 :: List.replicate 30 0
def mkA : List Int := 165 :: 90 :: List.replicate 18 0
def lentH (l : List (List Int)) : PV := .sl (l.map key) [key mkH, key mkH]
set_option maxHeartbeats 1000000 in
theorem playLentHashes_sound : Sound Tryd.prog 46 fun args k => ∃ (l : List (List Int)) (sl : List (List PS)), args = [.s (.sl (l.map key) sl)] ∧ l.length ≤ 2 ^ 40 ∧ k [.s (.sl (l.map key) [key mkH, key mkH])] := by
  refine Sound.of_body tt_ok ent_ok Tryd.func46 rfl ?_
  rintro ar har Γ hΓ args k ⟨l, sl, hargs, hl, hk⟩
  obtain ⟨D, hD⟩ : ∃ D, D = l.map key := ⟨_, rfl⟩
  have hDl : ar.len D = (l.length : Int) := by rw [lenIs har, hD, List.length_map]
  have hDn : D.length = l.length := by rw [hD, List.length_map]
  have hD1 : ∀ y ∈ D, rlen y = 32 := by rw [hD]; exact key_all l
  have hap : ar.app [] D = D := by rw [appIs har]; rfl
  rw [← hD] at hk hargs
  subst hargs
  have e1 : ar.mid (ar.app (ar.app [] D) [key mkH, key mkH]) 0 (ar.nat (ar.len D)) = D := by rw [natOf har hDl, midIs har, appIs har, appIs har, ← hDn]; simp
  have e2 : ar.frm (ar.app (ar.app [] D) [key mkH, key mkH]) (ar.nat (ar.len D)) = [key mkH, key mkH] := by rw [natOf har hDl, frmIs har, appIs har, appIs har, ← hDn]; simp
  have hk2 : k [.s (.sl (ar.mid (ar.app (ar.app [] D) [key mkH, key mkH]) 0 (ar.nat (ar.len D))) (ar.frm (ar.app (ar.app [] D) [key mkH, key mkH]) (ar.nat (ar.len D))))] := by rw [e1, e2]; exact hk
  have s1 : (0 + D.length) * 32 ≤ 140737488355328 := by omega
  have s2 : ((ar.app [] D).length + [key mkH, key mkH].length) * 32 ≤ 140737488355328 := by rw [hap]; simp; omega
  have s3 : ∀ y ∈ [key mkH, key mkH], rlen y = 32 := by intro y hy; simp at hy; rw [hy]; rfl
  have s4 : 0 ≤ ar.len D ∧ ar.len D ≤ (((ar.app (ar.app [] D) [key mkH, key mkH]).length + 0 : Nat) : Int) := by rw [appIs har, appIs har, hDl]; simp; omega
  conv => cbv
  exact ⟨fun _ => ⟨s1, hD1⟩, fun _ => ⟨s2, s3⟩, .inr ⟨fun _ => s4, hk2⟩⟩
end Go.Eng
namespace Go.Eng
open Go Go.Proofs
set_option maxRecDepth 100000
set_option maxHeartbeats 4000000
set_option linter.unusedVariables false

def a5s : List (List PS) := List.replicate 70 a5
def mkAu : Au := ⟨0, List.replicate 20 0, 165, 0, 0, 0⟩
def mkE : Ent := ⟨mkA, [], []⟩
/-- An entry that is lent. -/
def Ent.lent (e : Ent) : Ent := ⟨e.a, e.ks, [key mkH, key mkH]⟩
def Tx.lent (t : Tx) : Tx := { t with sd := a5s, ac := t.ac.map Ent.lent, sac := [mkE.row, mkE.row], sbl := [key mkH, key mkH], sau := [mkAu.row, mkAu.row] }

theorem playLentTx_sound : Sound Tryd.prog 26 fun args k => ∃ t : Tx, args = [.a t.row] ∧ t.small ∧ k [.a t.lent.row] := by
  refine Sound.of_body tt_ok ent_ok Tryd.func26 rfl ?_
  rintro ar har Γ hΓ args k ⟨⟨tty, tch, tno, tpr, tti, tca, tga, tcr, tto, tva, td, tsd, tac, tsac, tbc, tbl, tsbl, tau, tsau, tv, tr, ts⟩, hargs, hs, hk⟩
  obtain ⟨tWpr, thWpr⟩ : ∃ x, x = w4 tpr := ⟨_, rfl⟩
  obtain ⟨tWti, thWti⟩ : ∃ x, x = w4 tti := ⟨_, rfl⟩
  obtain ⟨tWca, thWca⟩ : ∃ x, x = w4 tca := ⟨_, rfl⟩
  obtain ⟨tWva, thWva⟩ : ∃ x, x = w4 tva := ⟨_, rfl⟩
  obtain ⟨tWbc, thWbc⟩ : ∃ x, x = w4 tbc := ⟨_, rfl⟩
  obtain ⟨tWv, thWv⟩ : ∃ x, x = w4 tv := ⟨_, rfl⟩
  obtain ⟨tWr, thWr⟩ : ∃ x, x = w4 tr := ⟨_, rfl⟩
  obtain ⟨tWs, thWs⟩ : ∃ x, x = w4 ts := ⟨_, rfl⟩
  obtain ⟨tWto, thWto⟩ : ∃ x, x = u8s tto := ⟨_, rfl⟩
  obtain ⟨tD, thD⟩ : ∃ x, x = td.map b8' := ⟨_, rfl⟩
  obtain ⟨tA, thA⟩ : ∃ x, x = tac.map Ent.row := ⟨_, rfl⟩
  obtain ⟨tB, thB⟩ : ∃ x, x = tbl.map key := ⟨_, rfl⟩
  obtain ⟨tU, thU⟩ : ∃ x, x = tau.map Au.row := ⟨_, rfl⟩
  obtain ⟨tIch, thIch⟩ : ∃ x : Int, x = (tch : Int) := ⟨_, rfl⟩
  obtain ⟨tIno, thIno⟩ : ∃ x : Int, x = (tno : Int) := ⟨_, rfl⟩
  obtain ⟨tIga, thIga⟩ : ∃ x : Int, x = (tga : Int) := ⟨_, rfl⟩
  have trow : Tx.row ⟨tty, tch, tno, tpr, tti, tca, tga, tcr, tto, tva, td, tsd, tac, tsac, tbc, tbl, tsbl, tau, tsau, tv, tr, ts⟩ = [.c (.v (.int .i64 tty)), .c (.v (.int .u64 tIch)), .c (.v (.int .u64 tIno)), .r 4 tWpr, .r 4 tWti, .r 4 tWca, .c (.v (.int .u64 tIga)), .c (.v (.bool tcr)), .r 20 tWto, .r 4 tWva, .c (.sl tD tsd), .c (.sl tA tsac), .r 4 tWbc, .c (.sl tB tsbl), .c (.sl tU tsau), .r 4 tWv, .r 4 tWr, .r 4 tWs] := by rw [thWpr, thWti, thWca, thWva, thWbc, thWv, thWr, thWs, thWto, thD, thA, thB, thU, thIch, thIno, thIga]; rfl
  rw [trow] at hargs
  obtain ⟨R, hR⟩ : ∃ R, R = a5s := ⟨_, rfl⟩
  obtain ⟨M, hM⟩ : ∃ M, M = [key mkH, key mkH] := ⟨_, rfl⟩
  have hAl : ar.len tA = (tac.length : Int) := by rw [lenIs har, thA, List.length_map]
  have hUl : ar.len tU = (tau.length : Int) := by rw [lenIs har, thU, List.length_map]
  have hUn : tU.length = tau.length := by rw [thU, List.length_map]
  have hU1 : ∀ y ∈ tU, rlen y = 34 := by
    rw [thU]; intro y hy; rw [List.mem_map] at hy; obtain ⟨x, _, rfl⟩ := hy; rfl
  have sd := hs.d
  have sac := hs.ac
  have sks := hs.ks
  have sbl := hs.bl
  have sau := hs.au
  simp only at sd sac sks sbl sau
  have callL : ∀ (Γ : Ctx) (d' : Nat) (k : List PR → Prop) (Q : Prop), Γ = ctx Tryd.prog d' → k [.s (.sl tD R)] → Γ.g 45 [.s (.sl tD tsd)] k ∨ Q := fun Γ d' k Q hΓ hk => call_by hΓ playLent_sound ⟨td, tsd, by rw [thD], by omega, by rw [hR, a5s, thD] at hk; exact hk⟩
  have callH : ∀ (Γ : Ctx) (d' : Nat) (k : List PR → Prop) (Q : Prop), Γ = ctx Tryd.prog d' → k [.s (.sl tB M)] → Γ.g 46 [.s (.sl tB tsbl)] k ∨ Q := fun Γ d' k Q hΓ hk => call_by hΓ playLentHashes_sound ⟨tbl, tsbl, by rw [thB], by omega, by rw [hM, thB] at hk; exact hk⟩
  obtain ⟨mau, hmau⟩ : ∃ m, m = mkAu.row := ⟨_, rfl⟩
  have hap : ar.app [] tU = tU := by rw [appIs har]; rfl
  have s1 : (0 + tU.length) * 136 ≤ 140737488355328 := by omega
  have s2 : ((ar.app [] tU).length + [mkAu.row, mkAu.row].length) * 136 ≤ 140737488355328 := by rw [hap]; simp; omega
  have s3 : ∀ y ∈ [mkAu.row, mkAu.row], rlen y = 34 := by intro y hy; simp at hy; rw [hy]; rfl
  have s4 : 0 ≤ ar.len tU ∧ ar.len tU ≤ (((ar.app (ar.app [] tU) [mkAu.row, mkAu.row]).length + 0 : Nat) : Int) := by rw [appIs har, appIs har, hUl]; simp; omega
  subst hargs
  conv => cbv
  refine callL _ _ _ _ hΓ ?_
  conv => cbv
  refine callH _ _ _ _ hΓ ?_
  conv => cbv
  refine ⟨fun _ => ⟨s1, hU1⟩, fun _ => ⟨s2, s3⟩, .inr ⟨fun _ => s4, ?_⟩⟩
  have f1 : ar.mid (ar.app (ar.app [] tU) [mkAu.row, mkAu.row]) 0 (ar.nat (ar.len tU)) = tU := by rw [natOf har hUl, midIs har, appIs har, appIs har, ← hUn]; simp
  have f2 : ar.frm (ar.app (ar.app [] tU) [mkAu.row, mkAu.row]) (ar.nat (ar.len tU)) = [mkAu.row, mkAu.row] := by rw [natOf har hUl, frmIs har, appIs har, appIs har, ← hUn]; simp
  obtain ⟨AL, hAL⟩ : ∃ L, L = (tac.map Ent.lent).map Ent.row := ⟨_, rfl⟩
  have hfin : Tx.row (Tx.lent ⟨tty, tch, tno, tpr, tti, tca, tga, tcr, tto, tva, td, tsd, tac, tsac, tbc, tbl, tsbl, tau, tsau, tv, tr, ts⟩) = [.c (.v (.int .i64 tty)), .c (.v (.int .u64 tIch)), .c (.v (.int .u64 tIno)), .r 4 tWpr, .r 4 tWti, .r 4 tWca, .c (.v (.int .u64 tIga)), .c (.v (.bool tcr)), .r 20 tWto, .r 4 tWva, .c (.sl tD R), .c (.sl AL [mkE.row, mkE.row]), .r 4 tWbc, .c (.sl tB M), .c (.sl tU [mkAu.row, mkAu.row]), .r 4 tWv, .r 4 tWr, .r 4 tWs] := by rw [hAL, hR, hM, thWpr, thWti, thWca, thWva, thWbc, thWv, thWr, thWs, thWto, thD, thB, thU, thIch, thIno, thIga]; rfl
  rw [hfin] at hk
  refine .inr ⟨{ q : Nat × Int × List (List PS) × List (List PS) × List (List PS) // q.1 ≤ tac.length ∧ q.2.1 = q.1 ∧ q.2.2.1 = ((tac.take q.1).map Ent.lent).map Ent.row ∧ q.2.2.2.1 = tU ∧ q.2.2.2.2 = [mkAu.row, mkAu.row] },
    fun q => ⟨mk 69 [(1, .s (.ptr 0 0)), (2, .s (.ptr 1 0)), (3, .s (.ptr 2 0)), (5, .s (.own 5)), (6, pint q.1.2.1)], [.box [.c (.p (.v (.int .i64 tty))), .c (.p (.v (.int .u64 tIch))), .c (.p (.v (.int .u64 tIno))), .r 4 tWpr, .r 4 tWti, .r 4 tWca, .c (.p (.v (.int .u64 tIga))), .c (.p (.v (.bool tcr))), .r 20 tWto, .r 4 tWva, .c (.p (.sl tD tsd)), .c (.p (.sl tA tsac)), .r 4 tWbc, .c (.p (.sl tB tsbl)), .c (.p (.sl tU tsau)), .r 4 tWv, .r 4 tWr, .r 4 tWs], .box [.c (.lit .i64 0), .c (.lit .u64 0), .c (.lit .u64 0), .r 4 (w4 0), .r 4 (w4 0), .r 4 (w4 0), .c (.lit .u64 0), .c (.bl false), .r 20 (u8s (List.replicate 20 0)), .r 4 (w4 0), .c .nil, .c .nil, .r 4 (w4 0), .c .nil, .c .nil, .r 4 (w4 0), .r 4 (w4 0), .r 4 (w4 0)], .box [.c (.p (.v (.int .i64 tty))), .c (.p (.v (.int .u64 tIch))), .c (.p (.v (.int .u64 tIno))), .r 4 tWpr, .r 4 tWti, .r 4 tWca, .c (.p (.v (.int .u64 tIga))), .c (.p (.v (.bool tcr))), .r 20 tWto, .r 4 tWva, .c (.p (.sl tD R)), .c (.p (.sl tA tsac)), .r 4 tWbc, .c (.p (.sl tB M)), .c (.p (.sl q.1.2.2.2.1 q.1.2.2.2.2)), .r 4 tWv, .r 4 tWr, .r 4 tWs], .gone, .gone, .arr q.1.2.2.1 57 21 48 true]⟩,
    fun q => tac.length - q.1.1, [.slot 5 57], _, ⟨(0, 0, [], ar.mid (ar.app (ar.app [] tU) [mkAu.row, mkAu.row]) 0 (ar.nat (ar.len tU)), ar.frm (ar.app (ar.app [] tU) [mkAu.row, mkAu.row]) (ar.nat (ar.len tU))), Nat.zero_le _, rfl, rfl, f1, f2⟩, rfl, ?_, ?_⟩
  · conv => cbv
    simp
  · rintro ⟨⟨p, pi, L, P1, Q1⟩, hq⟩
    have hp : p ≤ tac.length := hq.1
    have hpi : pi = (p : Int) := hq.2.1
    have hL : L = ((tac.take p).map Ent.lent).map Ent.row := hq.2.2.1
    have hP1 : P1 = tU := hq.2.2.2.1
    have hQ1 : Q1 = [mkAu.row, mkAu.row] := hq.2.2.2.2
    have hLl : L.length = p := by rw [hL]; simp; omega
    dsimp only
    conv => cbv
    refine ⟨fun h => ?_, fun h => ?_⟩
    · have g' := cLt har (b := ar.len tA) h
      have hlt : p < tac.length := by omega
      obtain ⟨x, hx⟩ : ∃ x, tac[p]? = some x := ⟨_, List.getElem?_eq_getElem hlt⟩
      have hxk := sks x (List.mem_of_getElem? hx)
      have hL2 : ((tac.take (p + 1)).map Ent.lent).map Ent.row = L ++ [x.lent.row] := by rw [hL, List.take_add_one, hx]; simp
      obtain ⟨xa, xk, xs1⟩ := x
      obtain ⟨xv, hxv⟩ : ∃ v, v = u8s xa := ⟨_, rfl⟩
      obtain ⟨xl, hxl⟩ : ∃ v, v = xk.map key := ⟨_, rfl⟩
      have hrw : (Ent.mk xa xk xs1).lent.row = [.r 20 xv, .c (.sl xl M)] := by rw [hxv, hxl, hM]; rfl
      rw [hrw] at hL2
      have rx : tA[pi.toNat]? = some [.r 20 xv, .c (.sl xl xs1)] := by rw [thA, hpi]; simp [hx, Ent.row, hxv, hxl]
      have callK : ∀ (Γ : Ctx) (d' : Nat) (k : List PR → Prop), Γ = ctx Tryd.prog d' → k [.s (.sl xl M)] → Γ.g 46 [.s (.sl xl xs1)] k := fun Γ d' k hΓ hk => call_by' hΓ playLentHashes_sound ⟨xk, xs1, by rw [hxl], by simp only at hxk; omega, by rw [hM, hxl] at hk; exact hk⟩
      have t1 : (L.length + 1) * 48 ≤ 140737488355328 ∧ ∀ y ∈ [[PS.r 20 xv, .c (.sl xl M)]], rlen y = 21 := ⟨by omega, by simp [rlen, PS.len]⟩
      conv => cbv
      refine ⟨by rw [har]; kernel_rfl, ?_⟩
      refine ⟨_, by omega, rx, rfl, ?_⟩
      conv => cbv
      refine ⟨_, by omega, rx, rfl, ?_⟩
      conv => cbv
      refine callK _ _ _ hΓ ?_
      conv => cbv
      refine ⟨fun _ => t1, ?_⟩
      refine ⟨⟨(p + 1, ar.ib .add .i64 pi 1, ar.app L [[.r 20 xv, .c (.sl xl M)]], P1, Q1), hlt, iSucc har hpi (by omega), by rw [appIs har, hL2], hP1, hQ1⟩, ?_, ?_⟩
      · dsimp only
        conv => cbv
        simp
      · show tac.length - (p + 1) < tac.length - p
        omega
    · have g' := cNlt har (b := ar.len tA) h
      have hpe : p = tac.length := by omega
      have hLA : L = AL := by rw [hL, hpe, List.take_length, hAL]
      have hLn : L.length = tac.length := by omega
      have u1 : (L.length + [mkE.row, mkE.row].length) * 48 ≤ 140737488355328 := by simp; omega
      have u2 : ∀ y ∈ [mkE.row, mkE.row], rlen y = 21 := by intro y hy; simp at hy; rw [hy]; rfl
      have u3 : 0 ≤ ar.len tA ∧ ar.len tA ≤ (((ar.app L [mkE.row, mkE.row]).length + 0 : Nat) : Int) := by rw [appIs har, hAl]; simp; omega
      have f3 : ar.mid (ar.app L [mkE.row, mkE.row]) 0 (ar.nat (ar.len tA)) = AL := by rw [natOf har hAl, midIs har, appIs har, ← hLA, ← hLn]; simp
      have f4 : ar.frm (ar.app L [mkE.row, mkE.row]) (ar.nat (ar.len tA)) = [mkE.row, mkE.row] := by rw [natOf har hAl, frmIs har, appIs har, ← hLn]; simp
      rw [← f4] at hk
      rw [← f3, ← hP1, ← hQ1] at hk
      conv => cbv
      refine ⟨fun _ => ⟨u1, u2⟩, .inr ⟨fun _ => u3, ?_⟩⟩
      exact hk

theorem lent_small {t : Tx} (h : t.small) : t.lent.small := ⟨h.d, by simpa [Tx.lent] using h.ac, fun e he => by
  simp only [Tx.lent, List.mem_map] at he
  obtain ⟨x, hx, rfl⟩ := he
  exact h.ks x hx, h.bl, h.au⟩
theorem lent_ok {t : Tx} (h : t.ok) : t.lent.ok := ⟨h.ty, h.ch, h.no, h.pr, h.ti, h.ca, h.ga, h.to, h.va, fun e he => by
  simp only [Tx.lent, List.mem_map] at he
  obtain ⟨x, hx, rfl⟩ := he
  exact h.ac x hx, h.bc, h.bl, h.au, h.v, h.r, h.s, h.tob, h.db⟩
theorem lent_core (t : Tx) : t.lent.core = t.core := by
  simp only [Tx.lent, Tx.core, List.map_map]
  congr 1

theorem twin15_sound : Sound Tryd.prog 9 fun args k => ∃ t : Tx, args = [.a t.row] ∧ t.small ∧ k [.a t.lent.row] := by
  refine Sound.of_body tt_ok ent_ok Tryd.func9 rfl ?_
  rintro ar har Γ hΓ args k ⟨t, hargs, hs, hk⟩
  obtain ⟨u, hu⟩ : ∃ u, u = t.lent := ⟨_, rfl⟩
  have callL : ∀ (A B : List PS) (Γ : Ctx) (d' : Nat) (k : List PR → Prop) (Q : Prop), Γ = ctx Tryd.prog d' → A = t.row → B = u.row → k [.a B] → Γ.g 26 [.a A] k ∨ Q := fun A B Γ d' k Q hΓ hA hB hk => call_by hΓ playLentTx_sound ⟨t, by rw [hA], hs, by rw [← hu, ← hB]; exact hk⟩
  rw [← hu] at hk
  obtain ⟨tty, tch, tno, tpr, tti, tca, tga, tcr, tto, tva, td, tsd, tac, tsac, tbc, tbl, tsbl, tau, tsau, tv, tr, ts⟩ := t
  obtain ⟨uty, uch, uno, upr, uti, uca, uga, ucr, uto, uva, ud, usd, uac, usac, ubc, ubl, usbl, uau, usau, uv, ur, us⟩ := u
  obtain ⟨tWpr, thWpr⟩ : ∃ x, x = w4 tpr := ⟨_, rfl⟩
  obtain ⟨tWti, thWti⟩ : ∃ x, x = w4 tti := ⟨_, rfl⟩
  obtain ⟨tWca, thWca⟩ : ∃ x, x = w4 tca := ⟨_, rfl⟩
  obtain ⟨tWva, thWva⟩ : ∃ x, x = w4 tva := ⟨_, rfl⟩
  obtain ⟨tWbc, thWbc⟩ : ∃ x, x = w4 tbc := ⟨_, rfl⟩
  obtain ⟨tWv, thWv⟩ : ∃ x, x = w4 tv := ⟨_, rfl⟩
  obtain ⟨tWr, thWr⟩ : ∃ x, x = w4 tr := ⟨_, rfl⟩
  obtain ⟨tWs, thWs⟩ : ∃ x, x = w4 ts := ⟨_, rfl⟩
  obtain ⟨tWto, thWto⟩ : ∃ x, x = u8s tto := ⟨_, rfl⟩
  obtain ⟨tD, thD⟩ : ∃ x, x = td.map b8' := ⟨_, rfl⟩
  obtain ⟨tA, thA⟩ : ∃ x, x = tac.map Ent.row := ⟨_, rfl⟩
  obtain ⟨tB, thB⟩ : ∃ x, x = tbl.map key := ⟨_, rfl⟩
  obtain ⟨tU, thU⟩ : ∃ x, x = tau.map Au.row := ⟨_, rfl⟩
  obtain ⟨tIch, thIch⟩ : ∃ x : Int, x = (tch : Int) := ⟨_, rfl⟩
  obtain ⟨tIno, thIno⟩ : ∃ x : Int, x = (tno : Int) := ⟨_, rfl⟩
  obtain ⟨tIga, thIga⟩ : ∃ x : Int, x = (tga : Int) := ⟨_, rfl⟩
  obtain ⟨uWpr, uhWpr⟩ : ∃ x, x = w4 upr := ⟨_, rfl⟩
  obtain ⟨uWti, uhWti⟩ : ∃ x, x = w4 uti := ⟨_, rfl⟩
  obtain ⟨uWca, uhWca⟩ : ∃ x, x = w4 uca := ⟨_, rfl⟩
  obtain ⟨uWva, uhWva⟩ : ∃ x, x = w4 uva := ⟨_, rfl⟩
  obtain ⟨uWbc, uhWbc⟩ : ∃ x, x = w4 ubc := ⟨_, rfl⟩
  obtain ⟨uWv, uhWv⟩ : ∃ x, x = w4 uv := ⟨_, rfl⟩
  obtain ⟨uWr, uhWr⟩ : ∃ x, x = w4 ur := ⟨_, rfl⟩
  obtain ⟨uWs, uhWs⟩ : ∃ x, x = w4 us := ⟨_, rfl⟩
  obtain ⟨uWto, uhWto⟩ : ∃ x, x = u8s uto := ⟨_, rfl⟩
  obtain ⟨uD, uhD⟩ : ∃ x, x = ud.map b8' := ⟨_, rfl⟩
  obtain ⟨uA, uhA⟩ : ∃ x, x = uac.map Ent.row := ⟨_, rfl⟩
  obtain ⟨uB, uhB⟩ : ∃ x, x = ubl.map key := ⟨_, rfl⟩
  obtain ⟨uU, uhU⟩ : ∃ x, x = uau.map Au.row := ⟨_, rfl⟩
  obtain ⟨uIch, uhIch⟩ : ∃ x : Int, x = (uch : Int) := ⟨_, rfl⟩
  obtain ⟨uIno, uhIno⟩ : ∃ x : Int, x = (uno : Int) := ⟨_, rfl⟩
  obtain ⟨uIga, uhIga⟩ : ∃ x : Int, x = (uga : Int) := ⟨_, rfl⟩
  have trow : Tx.row ⟨tty, tch, tno, tpr, tti, tca, tga, tcr, tto, tva, td, tsd, tac, tsac, tbc, tbl, tsbl, tau, tsau, tv, tr, ts⟩ = [.c (.v (.int .i64 tty)), .c (.v (.int .u64 tIch)), .c (.v (.int .u64 tIno)), .r 4 tWpr, .r 4 tWti, .r 4 tWca, .c (.v (.int .u64 tIga)), .c (.v (.bool tcr)), .r 20 tWto, .r 4 tWva, .c (.sl tD tsd), .c (.sl tA tsac), .r 4 tWbc, .c (.sl tB tsbl), .c (.sl tU tsau), .r 4 tWv, .r 4 tWr, .r 4 tWs] := by rw [thWpr, thWti, thWca, thWva, thWbc, thWv, thWr, thWs, thWto, thD, thA, thB, thU, thIch, thIno, thIga]; rfl
  have urow : Tx.row ⟨uty, uch, uno, upr, uti, uca, uga, ucr, uto, uva, ud, usd, uac, usac, ubc, ubl, usbl, uau, usau, uv, ur, us⟩ = [.c (.v (.int .i64 uty)), .c (.v (.int .u64 uIch)), .c (.v (.int .u64 uIno)), .r 4 uWpr, .r 4 uWti, .r 4 uWca, .c (.v (.int .u64 uIga)), .c (.v (.bool ucr)), .r 20 uWto, .r 4 uWva, .c (.sl uD usd), .c (.sl uA usac), .r 4 uWbc, .c (.sl uB usbl), .c (.sl uU usau), .r 4 uWv, .r 4 uWr, .r 4 uWs] := by rw [uhWpr, uhWti, uhWca, uhWva, uhWbc, uhWv, uhWr, uhWs, uhWto, uhD, uhA, uhB, uhU, uhIch, uhIno, uhIga]; rfl
  rw [trow] at hargs
  rw [urow] at hk
  subst hargs
  conv => cbv
  refine callL _ [.c (.v (.int .i64 uty)), .c (.v (.int .u64 uIch)), .c (.v (.int .u64 uIno)), .r 4 uWpr, .r 4 uWti, .r 4 uWca, .c (.v (.int .u64 uIga)), .c (.v (.bool ucr)), .r 20 uWto, .r 4 uWva, .c (.sl uD usd), .c (.sl uA usac), .r 4 uWbc, .c (.sl uB usbl), .c (.sl uU usau), .r 4 uWv, .r 4 uWr, .r 4 uWs] _ _ _ _ hΓ trow.symm urow.symm ?_
  conv => cbv
  exact hk
end Go.Eng
