import Derived.Test.YtgihmigiecfmaaaDoorUA
import Derived.Test.YtgihmigiecfmaaaDoorLA
import Derived.Test.YtgihmigiecfmaaaDoorRE
namespace Go.Eng
open Go Go.Proofs
set_option maxRecDepth 100000
set_option maxHeartbeats 4000000
set_option linter.unusedVariables false
theorem slEqB_sound : Sound Tryd.prog 24 fun args k => ∃ (xs ys : List (Int)) (s t : List (List PS)) (b : Bool), args = [.s (.sl (xs.map b8') s), .s (.sl (ys.map b8') t)] ∧ xs.length ≤ 2 ^ 40 ∧ (∀ x ∈ xs, True) ∧ (∀ x ∈ ys, True) ∧ (b = true ↔ xs = ys) ∧ k [.s (.v (.bool b))] := by
 refine Sound.of_body tt_ok ent_ok Tryd.func24 rfl ?_
 rintro ar har Γ hΓ args k ⟨xs, ys, s, t, b, hargs, hl, hxo, hyo, hb, hk⟩
 obtain ⟨X, hX⟩ : ∃ X, X = xs.map b8' := ⟨_, rfl⟩
 obtain ⟨Y, hY⟩ : ∃ Y, Y = ys.map b8' := ⟨_, rfl⟩
 have hXl : ar.len X = (xs.length : Int) := by rw [lenIs har, hX, List.length_map]
 have hYl : ar.len Y = (ys.length : Int) := by rw [lenIs har, hY, List.length_map]
 have hno : xs ≠ ys → k [.s (.v (.bool false))] := fun h => by
  have : b = false := by
   cases b with
   | false => rfl
   | true => exact absurd (hb.1 rfl) h
  rw [this] at hk; exact hk
 have hyes : xs = ys → k [.s (.v (.bool true))] := fun h => by rw [hb.2 h] at hk; exact hk
 rw [← hX, ← hY] at hargs
 clear hk
 subst hargs
 conv => cbv
 refine ⟨fun h => ?_, fun h => ?_⟩
 ·have g := cNe har (a := ar.len X) (b := ar.len Y) h
  have hk := hno (fun e => g (by rw [hXl, hYl, e]))
  conv => cbv
  exact hk
 ·have g := cNne har (a := ar.len X) (b := ar.len Y) h
  have hll : xs.length = ys.length := by omega
  conv => cbv
  refine .inr ⟨{ q : Nat × Int // q.1 ≤ xs.length ∧ q.2 = q.1 ∧ xs.take q.1 = ys.take q.1 },
   fun q => ⟨mk 26 [(0, .s (.p (.sl X s))), (1, .s (.p (.sl Y t))), (12, pint (ar.len X)), (13, pint q.1.2)], []⟩,
   fun q => xs.length - q.1.1, [], _, ⟨(0, 0), Nat.zero_le _, rfl, rfl⟩, rfl, ?_, ?_⟩
  ·conv => cbv
   simp
  ·rintro ⟨⟨p, pi⟩, hq⟩
   have hp : p ≤ xs.length := hq.1
   have hpi : pi = (p : Int) := hq.2.1
   have hsame : xs.take p = ys.take p := hq.2.2
   dsimp only
   conv => cbv
   refine ⟨fun h => ?_, fun h => ?_⟩
   ·have g' := cLt har (b := ar.len X) h
    have hlt : p < xs.length := by omega
    obtain ⟨x, hx⟩ : ∃ x, xs[p]? = some x := ⟨_, List.getElem?_eq_getElem hlt⟩
    obtain ⟨y, hy⟩ : ∃ y, ys[p]? = some y := ⟨_, List.getElem?_eq_getElem (by omega)⟩
    skip
    have rx : X[pi.toNat]? = some [.c (.v (.int .u8 x))] := by rw [hX, hpi]; simp [hx, b8']
    have ry : Y[pi.toNat]? = some [.c (.v (.int .u8 y))] := by rw [hY, hpi]; simp [hy, b8']
    conv => cbv
    refine ⟨by rw [har]; kernel_rfl, ?_⟩
    refine ⟨_, by omega, rx, rfl, ?_⟩
    conv => cbv
    refine ⟨_, by omega, ry, rfl, ?_⟩
    conv => cbv
    refine ⟨fun h2 => ?_, fun h2 => ?_⟩
    ·have hxy : x ≠ y := cNe har h2
     have hk := hno (fun e => hxy (by rw [e] at hx; rw [hx] at hy; exact Option.some.inj hy))
     conv => cbv
     exact hk
    ·have hxy : x = y := cNne har h2
     have hs2 : xs.take (p + 1) = ys.take (p + 1) := by rw [List.take_add_one, List.take_add_one, hx, hy, hsame, hxy]
     conv => cbv
     refine ⟨⟨(p + 1, ar.ib .add .i64 pi 1), hlt, iSucc har hpi (by omega), hs2⟩, ?_, ?_⟩
     ·dsimp only
      conv => cbv
      simp
     ·show xs.length - (p + 1) < xs.length - p
      omega
   ·have g' := cNlt har (b := ar.len X) h
    have hpe : p = xs.length := by omega
    have hk := hyes (by rw [hpe, List.take_length, hll, List.take_length] at hsame; exact hsame)
    conv => cbv
    exact hk
theorem slEqH_sound : Sound Tryd.prog 25 fun args k => ∃ (xs ys : List (List Int)) (s t : List (List PS)) (b : Bool), args = [.s (.sl (xs.map key) s), .s (.sl (ys.map key) t)] ∧ xs.length ≤ 2 ^ 40 ∧ (∀ x ∈ xs, True) ∧ (∀ x ∈ ys, True) ∧ (b = true ↔ xs = ys) ∧ k [.s (.v (.bool b))] := by
 refine Sound.of_body tt_ok ent_ok Tryd.func25 rfl ?_
 rintro ar har Γ hΓ args k ⟨xs, ys, s, t, b, hargs, hl, hxo, hyo, hb, hk⟩
 obtain ⟨X, hX⟩ : ∃ X, X = xs.map key := ⟨_, rfl⟩
 obtain ⟨Y, hY⟩ : ∃ Y, Y = ys.map key := ⟨_, rfl⟩
 have hXl : ar.len X = (xs.length : Int) := by rw [lenIs har, hX, List.length_map]
 have hYl : ar.len Y = (ys.length : Int) := by rw [lenIs har, hY, List.length_map]
 have hno : xs ≠ ys → k [.s (.v (.bool false))] := fun h => by
  have : b = false := by
   cases b with
   | false => rfl
   | true => exact absurd (hb.1 rfl) h
  rw [this] at hk; exact hk
 have hyes : xs = ys → k [.s (.v (.bool true))] := fun h => by rw [hb.2 h] at hk; exact hk
 rw [← hX, ← hY] at hargs
 clear hk
 subst hargs
 conv => cbv
 refine ⟨fun h => ?_, fun h => ?_⟩
 ·have g := cNe har (a := ar.len X) (b := ar.len Y) h
  have hk := hno (fun e => g (by rw [hXl, hYl, e]))
  conv => cbv
  exact hk
 ·have g := cNne har (a := ar.len X) (b := ar.len Y) h
  have hll : xs.length = ys.length := by omega
  conv => cbv
  refine .inr ⟨{ q : Nat × Int // q.1 ≤ xs.length ∧ q.2 = q.1 ∧ xs.take q.1 = ys.take q.1 },
   fun q => ⟨mk 26 [(0, .s (.p (.sl X s))), (1, .s (.p (.sl Y t))), (12, pint (ar.len X)), (13, pint q.1.2)], []⟩,
   fun q => xs.length - q.1.1, [], _, ⟨(0, 0), Nat.zero_le _, rfl, rfl⟩, rfl, ?_, ?_⟩
  ·conv => cbv
   simp
  ·rintro ⟨⟨p, pi⟩, hq⟩
   have hp : p ≤ xs.length := hq.1
   have hpi : pi = (p : Int) := hq.2.1
   have hsame : xs.take p = ys.take p := hq.2.2
   dsimp only
   conv => cbv
   refine ⟨fun h => ?_, fun h => ?_⟩
   ·have g' := cLt har (b := ar.len X) h
    have hlt : p < xs.length := by omega
    obtain ⟨x, hx⟩ : ∃ x, xs[p]? = some x := ⟨_, List.getElem?_eq_getElem hlt⟩
    obtain ⟨y, hy⟩ : ∃ y, ys[p]? = some y := ⟨_, List.getElem?_eq_getElem (by omega)⟩
    obtain ⟨xv, hxv⟩ : ∃ xv, xv = u8s x := ⟨_, rfl⟩
    obtain ⟨yv, hyv⟩ : ∃ yv, yv = u8s y := ⟨_, rfl⟩
    have rx : X[pi.toNat]? = some [.r 32 xv] := by rw [hX, hpi]; simp [hx, key, hxv]
    have ry : Y[pi.toNat]? = some [.r 32 yv] := by rw [hY, hpi]; simp [hy, key, hyv]
    conv => cbv
    refine ⟨by rw [har]; kernel_rfl, ?_⟩
    refine ⟨_, by omega, rx, rfl, ?_⟩
    conv => cbv
    refine ⟨_, by omega, ry, rfl, ?_⟩
    conv => cbv
    refine ⟨fun _ => ⟨by rw [hxv]; exact ints_u8s x, by rw [hyv]; exact ints_u8s y⟩, fun h2 => ?_, fun h2 => ?_⟩
    ·have hxy : x ≠ y := by
      have h3 : ar.eqv xv yv = false := nbT har h2
      rw [eqvIs har, hxv, hyv, eqVals_u8s] at h3; simpa using h3
     have hk := hno (fun e => hxy (by rw [e] at hx; rw [hx] at hy; exact Option.some.inj hy))
     conv => cbv
     exact hk
    ·have hxy : x = y := by
      have h3 : ar.eqv xv yv = true := nbF har h2
      rw [eqvIs har, hxv, hyv, eqVals_u8s] at h3; simpa using h3
     have hs2 : xs.take (p + 1) = ys.take (p + 1) := by rw [List.take_add_one, List.take_add_one, hx, hy, hsame, hxy]
     conv => cbv
     refine ⟨⟨(p + 1, ar.ib .add .i64 pi 1), hlt, iSucc har hpi (by omega), hs2⟩, ?_, ?_⟩
     ·dsimp only
      conv => cbv
      simp
     ·show xs.length - (p + 1) < xs.length - p
      omega
   ·have g' := cNlt har (b := ar.len X) h
    have hpe : p = xs.length := by omega
    have hk := hyes (by rw [hpe, List.take_length, hll, List.take_length] at hsame; exact hsame)
    conv => cbv
    exact hk
end Go.Eng
namespace Go.Eng
open Go Go.Proofs
set_option maxRecDepth 100000
set_option maxHeartbeats 4000000
set_option linter.unusedVariables false
theorem slEqU_sound : Sound Tryd.prog 26 fun args k => ∃ (xs ys : List (Au)) (s t : List (List PS)) (b : Bool), args = [.s (.sl (xs.map Au.row) s), .s (.sl (ys.map Au.row) t)] ∧ xs.length ≤ 2 ^ 40 ∧ (∀ x ∈ xs, (x.ok ∧ bytesOk x.a)) ∧ (∀ x ∈ ys, (x.ok ∧ bytesOk x.a)) ∧ (b = true ↔ xs = ys) ∧ k [.s (.v (.bool b))] := by
 refine Sound.of_body tt_ok ent_ok Tryd.func26 rfl ?_
 rintro ar har Γ hΓ args k ⟨xs, ys, s, t, b, hargs, hl, hxo, hyo, hb, hk⟩
 obtain ⟨X, hX⟩ : ∃ X, X = xs.map Au.row := ⟨_, rfl⟩
 obtain ⟨Y, hY⟩ : ∃ Y, Y = ys.map Au.row := ⟨_, rfl⟩
 have hXl : ar.len X = (xs.length : Int) := by rw [lenIs har, hX, List.length_map]
 have hYl : ar.len Y = (ys.length : Int) := by rw [lenIs har, hY, List.length_map]
 have hno : xs ≠ ys → k [.s (.v (.bool false))] := fun h => by
  have : b = false := by
   cases b with
   | false => rfl
   | true => exact absurd (hb.1 rfl) h
  rw [this] at hk; exact hk
 have hyes : xs = ys → k [.s (.v (.bool true))] := fun h => by rw [hb.2 h] at hk; exact hk
 rw [← hX, ← hY] at hargs
 clear hk
 subst hargs
 conv => cbv
 refine ⟨fun h => ?_, fun h => ?_⟩
 ·have g := cNe har (a := ar.len X) (b := ar.len Y) h
  have hk := hno (fun e => g (by rw [hXl, hYl, e]))
  conv => cbv
  exact hk
 ·have g := cNne har (a := ar.len X) (b := ar.len Y) h
  have hll : xs.length = ys.length := by omega
  conv => cbv
  refine .inr ⟨{ q : Nat × Int // q.1 ≤ xs.length ∧ q.2 = q.1 ∧ xs.take q.1 = ys.take q.1 },
   fun q => ⟨mk 26 [(0, .s (.p (.sl X s))), (1, .s (.p (.sl Y t))), (12, pint (ar.len X)), (13, pint q.1.2)], []⟩,
   fun q => xs.length - q.1.1, [], _, ⟨(0, 0), Nat.zero_le _, rfl, rfl⟩, rfl, ?_, ?_⟩
  ·conv => cbv
   simp
  ·rintro ⟨⟨p, pi⟩, hq⟩
   have hp : p ≤ xs.length := hq.1
   have hpi : pi = (p : Int) := hq.2.1
   have hsame : xs.take p = ys.take p := hq.2.2
   dsimp only
   conv => cbv
   refine ⟨fun h => ?_, fun h => ?_⟩
   ·have g' := cLt har (b := ar.len X) h
    have hlt : p < xs.length := by omega
    obtain ⟨x, hx⟩ : ∃ x, xs[p]? = some x := ⟨_, List.getElem?_eq_getElem hlt⟩
    obtain ⟨y, hy⟩ : ∃ y, ys[p]? = some y := ⟨_, List.getElem?_eq_getElem (by omega)⟩
    obtain ⟨lx0, lx1, lx2, lx3, la0, la1, la2, la3, la4, la5, la6, la7, la8, la9, la10, la11, la12, la13, la14, la15, la16, la17, la18, la19, lc3, lc4, ly0, ly1, ly2, ly3, lz0, lz1, lz2, lz3, hrx, hox, hcx⟩ := au_cells2 x (hxo x (List.mem_of_getElem? hx)).1 (hxo x (List.mem_of_getElem? hx)).2
    obtain ⟨rx0, rx1, rx2, rx3, ra0, ra1, ra2, ra3, ra4, ra5, ra6, ra7, ra8, ra9, ra10, ra11, ra12, ra13, ra14, ra15, ra16, ra17, ra18, ra19, rc3, rc4, ry0, ry1, ry2, ry3, rz0, rz1, rz2, rz3, hry, hoy, hcy⟩ := au_cells2 y (hyo y (List.mem_of_getElem? hy)).1 (hyo y (List.mem_of_getElem? hy)).2
    obtain ⟨c, hc⟩ : ∃ c, eqVals x.cells y.cells = c := ⟨_, rfl⟩
    have hce := eqVals_cells (hxo x (List.mem_of_getElem? hx)).1 (hyo y (List.mem_of_getElem? hy)).1
    rw [hc] at hce
    rw [← hcx, ← hcy] at hc
    have rx : X[pi.toNat]? = some [.r 4 [.int .u64 lx0, .int .u64 lx1, .int .u64 lx2, .int .u64 lx3], .r 20 [.int .u8 la0, .int .u8 la1, .int .u8 la2, .int .u8 la3, .int .u8 la4, .int .u8 la5, .int .u8 la6, .int .u8 la7, .int .u8 la8, .int .u8 la9, .int .u8 la10, .int .u8 la11, .int .u8 la12, .int .u8 la13, .int .u8 la14, .int .u8 la15, .int .u8 la16, .int .u8 la17, .int .u8 la18, .int .u8 la19], .c (.v (.int .u64 lc3)), .c (.v (.int .u64 lc4)), .r 4 [.int .u64 ly0, .int .u64 ly1, .int .u64 ly2, .int .u64 ly3], .r 4 [.int .u64 lz0, .int .u64 lz1, .int .u64 lz2, .int .u64 lz3]] := by rw [hX, hpi]; rw [← hrx]; simp [hx]
    have ry : Y[pi.toNat]? = some [.r 4 [.int .u64 rx0, .int .u64 rx1, .int .u64 rx2, .int .u64 rx3], .r 20 [.int .u8 ra0, .int .u8 ra1, .int .u8 ra2, .int .u8 ra3, .int .u8 ra4, .int .u8 ra5, .int .u8 ra6, .int .u8 ra7, .int .u8 ra8, .int .u8 ra9, .int .u8 ra10, .int .u8 ra11, .int .u8 ra12, .int .u8 ra13, .int .u8 ra14, .int .u8 ra15, .int .u8 ra16, .int .u8 ra17, .int .u8 ra18, .int .u8 ra19], .c (.v (.int .u64 rc3)), .c (.v (.int .u64 rc4)), .r 4 [.int .u64 ry0, .int .u64 ry1, .int .u64 ry2, .int .u64 ry3], .r 4 [.int .u64 rz0, .int .u64 rz1, .int .u64 rz2, .int .u64 rz3]] := by rw [hY, hpi]; rw [← hry]; simp [hy]
    conv => cbv
    refine ⟨by rw [har]; kernel_rfl, ?_⟩
    refine ⟨_, by omega, rx, rfl, ?_⟩
    conv => cbv
    refine ⟨_, by omega, ry, rfl, ?_⟩
    conv => cbv
    refine ⟨c, fun _ => ⟨hox, hoy, hc⟩, ?_⟩
    conv => cbv
    refine ⟨fun h2 => ?_, fun h2 => ?_⟩
    ·have hxy : x ≠ y := fun e => by
      have h3 := nbT har h2
      rw [hce.2 e] at h3; cases h3
     have hk := hno (fun e => hxy (by rw [e] at hx; rw [hx] at hy; exact Option.some.inj hy))
     conv => cbv
     exact hk
    ·have hxy : x = y := hce.1 (nbF har h2)
     have hs2 : xs.take (p + 1) = ys.take (p + 1) := by rw [List.take_add_one, List.take_add_one, hx, hy, hsame, hxy]
     conv => cbv
     refine ⟨⟨(p + 1, ar.ib .add .i64 pi 1), hlt, iSucc har hpi (by omega), hs2⟩, ?_, ?_⟩
     ·dsimp only
      conv => cbv
      simp
     ·show xs.length - (p + 1) < xs.length - p
      omega
   ·have g' := cNlt har (b := ar.len X) h
    have hpe : p = xs.length := by omega
    have hk := hyes (by rw [hpe, List.take_length, hll, List.take_length] at hsame; exact hsame)
    conv => cbv
    exact hk
end Go.Eng
namespace Go.Eng
open Go Go.Proofs
set_option maxRecDepth 100000
set_option maxHeartbeats 4000000
set_option linter.unusedVariables false
theorem entEq_sound : Sound Tryd.prog 28 fun args k => ∃ (x y : Ent) (b : Bool), args = [.a x.row, .a y.row] ∧ x.ks.length ≤ 2 ^ 40 ∧ (b = true ↔ x.cor = y.cor) ∧ k [.s (.v (.bool b))] := by
 refine Sound.of_body tt_ok ent_ok Tryd.func28 rfl ?_
 rintro ar har Γ hΓ args k ⟨⟨xa, xk, xs⟩, ⟨ya, yk, ys⟩, b, hargs, hl, hb, hk⟩
 obtain ⟨xv, hxv⟩ : ∃ v, v = u8s xa := ⟨_, rfl⟩
 obtain ⟨yv, hyv⟩ : ∃ v, v = u8s ya := ⟨_, rfl⟩
 obtain ⟨xl, hxl⟩ : ∃ v, v = xk.map key := ⟨_, rfl⟩
 obtain ⟨yl, hyl⟩ : ∃ v, v = yk.map key := ⟨_, rfl⟩
 have hno : xa ≠ ya → k [.s (.v (.bool false))] := fun h => by
  have : b = false := by
   cases b with
   | false => rfl
   | true => exact absurd (congrArg Ent.a (hb.1 rfl)) h
  rw [this] at hk; exact hk
 obtain ⟨c, hc⟩ : ∃ c : Bool, (c = true ↔ xk = yk) := ⟨decide (xk = yk), by simp⟩
 have hyes : xa = ya → k [.s (.v (.bool c))] := fun h => by
  have : b = c := by
   rw [Bool.eq_iff_iff, hb, hc]
   constructor
   ·intro e; exact congrArg Ent.ks e
   ·intro e; rw [Ent.cor, Ent.cor]; simp [h, e]
  rw [this] at hk; exact hk
 have e1 : (Ent.mk xa xk xs).row = [.r 20 xv, .c (.sl xl xs)] := by rw [hxv, hxl]; rfl
 have e2 : (Ent.mk ya yk ys).row = [.r 20 yv, .c (.sl yl ys)] := by rw [hyv, hyl]; rfl
 rw [e1, e2] at hargs
 clear hk e1 e2
 subst hargs
 conv => cbv
 refine ⟨fun _ => ⟨by rw [hxv]; exact ints_u8s _, by rw [hyv]; exact ints_u8s _⟩, fun h => ?_, fun h => ?_⟩
 ·have hx : xa = ya := by
   have h3 : ar.eqv xv yv = true := h
   rw [eqvIs har, hxv, hyv, eqVals_u8s] at h3; simpa using h3
  have hk := hyes hx
  conv => cbv
  refine call_by hΓ slEqH_sound ⟨xk, yk, xs, ys, c, by rw [hxl, hyl], hl, fun _ _ => trivial, fun _ _ => trivial, hc, ?_⟩
  conv => cbv
  exact hk
 ·have hx : xa ≠ ya := fun e => by
   have h3 : ar.eqv xv yv = false := h
   rw [eqvIs har, hxv, hyv, eqVals_u8s, e] at h3; simp at h3
  have hk := hno hx
  conv => cbv
  exact hk
theorem eqFunc_sound : Sound Tryd.prog 27 fun args k => ∃ (xs ys : List Ent) (s t : List (List PS)) (b : Bool), args = [.s (.sl (xs.map Ent.row) s), .s (.sl (ys.map Ent.row) t), .s (.v (.func (.func 28) #[] #[]))] ∧ xs.length ≤ 2 ^ 40 ∧
  (∀ x ∈ xs, x.ks.length ≤ 2 ^ 40) ∧ (b = true ↔ xs.map Ent.cor = ys.map Ent.cor) ∧ k [.s (.v (.bool b))] := by
 refine Sound.of_body tt_ok ent_ok Tryd.func27 rfl ?_
 rintro ar har Γ hΓ args k ⟨xs, ys, s, t, b, hargs, hl, hks, hb, hk⟩
 obtain ⟨X, hX⟩ : ∃ X, X = xs.map Ent.row := ⟨_, rfl⟩
 obtain ⟨Y, hY⟩ : ∃ Y, Y = ys.map Ent.row := ⟨_, rfl⟩
 have hXl : ar.len X = (xs.length : Int) := by rw [lenIs har, hX, List.length_map]
 have hYl : ar.len Y = (ys.length : Int) := by rw [lenIs har, hY, List.length_map]
 have hno : xs.map Ent.cor ≠ ys.map Ent.cor → k [.s (.v (.bool false))] := fun h => by
  have : b = false := by
   cases b with
   | false => rfl
   | true => exact absurd (hb.1 rfl) h
  rw [this] at hk; exact hk
 have hyes : xs.map Ent.cor = ys.map Ent.cor → k [.s (.v (.bool true))] := fun h => by rw [hb.2 h] at hk; exact hk
 rw [← hX, ← hY] at hargs
 clear hk
 subst hargs
 conv => cbv
 refine ⟨fun h => ?_, fun h => ?_⟩
 ·have g := cNe har (a := ar.len X) (b := ar.len Y) h
  have hk := hno (fun e => g (by rw [hXl, hYl]; have := congrArg List.length e; simp at this; omega))
  conv => cbv
  exact hk
 ·have g := cNne har (a := ar.len X) (b := ar.len Y) h
  have hll : xs.length = ys.length := by omega
  conv => cbv
  refine .inr ⟨{ q : Nat × Int // q.1 ≤ xs.length ∧ q.2 = q.1 ∧ (xs.take q.1).map Ent.cor = (ys.take q.1).map Ent.cor },
   fun q => ⟨mk 32 [(1, .s (.p (.sl Y t))), (2, .s (.p (.v (.func (.func 28) #[] #[])))), (15, .s (.p (.sl X s))), (16, pint (ar.len X)), (17, pint q.1.2)], []⟩,
   fun q => xs.length - q.1.1, [], _, ⟨(0, 0), Nat.zero_le _, rfl, rfl⟩, rfl, ?_, ?_⟩
  ·conv => cbv
   simp
  ·rintro ⟨⟨p, pi⟩, hq⟩
   have hp : p ≤ xs.length := hq.1
   have hpi : pi = (p : Int) := hq.2.1
   have hsame : (xs.take p).map Ent.cor = (ys.take p).map Ent.cor := hq.2.2
   dsimp only
   conv => cbv
   refine ⟨fun h => ?_, fun h => ?_⟩
   ·have g' := cLt har (b := ar.len X) h
    have hlt : p < xs.length := by omega
    obtain ⟨x, hx⟩ : ∃ x, xs[p]? = some x := ⟨_, List.getElem?_eq_getElem hlt⟩
    obtain ⟨y, hy⟩ : ∃ y, ys[p]? = some y := ⟨_, List.getElem?_eq_getElem (by omega)⟩
    have hxk := hks x (List.mem_of_getElem? hx)
    obtain ⟨xa, xk, xs1⟩ := x
    obtain ⟨ya, yk, ys1⟩ := y
    obtain ⟨xv, hxv⟩ : ∃ v, v = u8s xa := ⟨_, rfl⟩
    obtain ⟨yv, hyv⟩ : ∃ v, v = u8s ya := ⟨_, rfl⟩
    obtain ⟨xl, hxl⟩ : ∃ v, v = xk.map key := ⟨_, rfl⟩
    obtain ⟨yl, hyl⟩ : ∃ v, v = yk.map key := ⟨_, rfl⟩
    have rx : X[pi.toNat]? = some [.r 20 xv, .c (.sl xl xs1)] := by rw [hX, hpi]; simp [hx, Ent.row, hxv, hxl]
    have ry : Y[pi.toNat]? = some [.r 20 yv, .c (.sl yl ys1)] := by rw [hY, hpi]; simp [hy, Ent.row, hyv, hyl]
    obtain ⟨c, hc⟩ : ∃ c : Bool, (c = true ↔ (Ent.mk xa xk xs1).cor = (Ent.mk ya yk ys1).cor) := by
     by_cases e : (Ent.mk xa xk xs1).cor = (Ent.mk ya yk ys1).cor
     ·exact ⟨true, by simp [e]⟩
     ·exact ⟨false, by simp [e]⟩
    conv => cbv
    refine ⟨_, by omega, rx, rfl, ?_⟩
    conv => cbv
    refine ⟨_, by omega, ry, rfl, ?_⟩
    conv => cbv
    refine call_by hΓ entEq_sound ⟨⟨xa, xk, xs1⟩, ⟨ya, yk, ys1⟩, c, by rw [hxv, hyv, hxl, hyl]; rfl, hxk, hc, ?_⟩
    conv => cbv
    refine ⟨fun h2 => ?_, fun h2 => ?_⟩
    ·have h3 := nbT har h2
     have hk := hno (fun e => by
      have e2 : (xs.map Ent.cor)[p]? = (ys.map Ent.cor)[p]? := by rw [e]
      rw [List.getElem?_map, List.getElem?_map, hx, hy] at e2
      rw [hc.2 (Option.some.inj e2)] at h3; cases h3)
     conv => cbv
     exact hk
    ·have h3 := hc.1 (nbF har h2)
     have hs2 : (xs.take (p + 1)).map Ent.cor = (ys.take (p + 1)).map Ent.cor := by
      rw [List.take_add_one, List.take_add_one, hx, hy, List.map_append, List.map_append, hsame]
      simp [h3]
     conv => cbv
     refine ⟨⟨(p + 1, ar.ib .add .i64 pi 1), hlt, iSucc har hpi (by omega), hs2⟩, ?_, ?_⟩
     ·dsimp only
      conv => cbv
      simp
     ·show xs.length - (p + 1) < xs.length - p
      omega
   ·have g' := cNlt har (b := ar.len X) h
    have hpe : p = xs.length := by omega
    have hk := hyes (by rw [hpe, List.take_length, hll, List.take_length] at hsame; exact hsame)
    conv => cbv
    exact hk
end Go.Eng
namespace Go.Eng
open Go Go.Proofs
set_option maxRecDepth 100000
set_option maxHeartbeats 8000000
set_option linter.unusedVariables false
theorem txSame_sound : Sound Tryd.prog 10 fun args k => ∃ (t u : Tx) (b : Bool), args = [.a t.row, .a u.row] ∧ t.ok ∧ u.ok ∧ t.small ∧ (b = true ↔ t.core = u.core) ∧ k [.s (.v (.bool b))] := by
 refine Sound.of_body tt_ok ent_ok Tryd.func10 rfl ?_
 rintro ar har Γ hΓ args k ⟨⟨tty, tch, tno, tpr, tti, tca, tga, tcr, tto, tva, td, tsd, tac, tsac, tbc, tbl, tsbl, tau, tsau, tv, tr, ts⟩, ⟨uty, uch, uno, upr, uti, uca, uga, ucr, uto, uva, ud, usd, uac, usac, ubc, ubl, usbl, uau, usau, uv, ur, us⟩, b, hargs, hto, huo, hts, hb, hk⟩
 obtain ⟨tWpr, thWpr⟩ : ∃ x, x = w4 tpr := ⟨_, rfl⟩
 obtain ⟨tWti, thWti⟩ : ∃ x, x = w4 tti := ⟨_, rfl⟩
 obtain ⟨tWca, thWca⟩ : ∃ x, x = w4 tca := ⟨_, rfl⟩
 obtain ⟨tWva, thWva⟩ : ∃ x, x = w4 tva := ⟨_, rfl⟩
 obtain ⟨tWbc, thWbc⟩ : ∃ x, x = w4 tbc := ⟨_, rfl⟩
 obtain ⟨tWv, thWv⟩ : ∃ x, x = w4 tv := ⟨_, rfl⟩
 obtain ⟨tWr, thWr⟩ : ∃ x, x = w4 tr := ⟨_, rfl⟩
 obtain ⟨tWs, thWs⟩ : ∃ x, x = w4 ts := ⟨_, rfl⟩
 obtain ⟨tWto, thWto⟩ : ∃ x, x = u8s tto := ⟨_, rfl⟩
 obtain ⟨tD, thD⟩ : ∃ x, x = td.map b8' := ⟨_, rfl⟩
 obtain ⟨tA, thA⟩ : ∃ x, x = tac.map Ent.row := ⟨_, rfl⟩
 obtain ⟨tB, thB⟩ : ∃ x, x = tbl.map key := ⟨_, rfl⟩
 obtain ⟨tU, thU⟩ : ∃ x, x = tau.map Au.row := ⟨_, rfl⟩
 obtain ⟨tIch, thIch⟩ : ∃ x : Int, x = (tch : Int) := ⟨_, rfl⟩
 obtain ⟨tIno, thIno⟩ : ∃ x : Int, x = (tno : Int) := ⟨_, rfl⟩
 obtain ⟨tIga, thIga⟩ : ∃ x : Int, x = (tga : Int) := ⟨_, rfl⟩
 obtain ⟨uWpr, uhWpr⟩ : ∃ x, x = w4 upr := ⟨_, rfl⟩
 obtain ⟨uWti, uhWti⟩ : ∃ x, x = w4 uti := ⟨_, rfl⟩
 obtain ⟨uWca, uhWca⟩ : ∃ x, x = w4 uca := ⟨_, rfl⟩
 obtain ⟨uWva, uhWva⟩ : ∃ x, x = w4 uva := ⟨_, rfl⟩
 obtain ⟨uWbc, uhWbc⟩ : ∃ x, x = w4 ubc := ⟨_, rfl⟩
 obtain ⟨uWv, uhWv⟩ : ∃ x, x = w4 uv := ⟨_, rfl⟩
 obtain ⟨uWr, uhWr⟩ : ∃ x, x = w4 ur := ⟨_, rfl⟩
 obtain ⟨uWs, uhWs⟩ : ∃ x, x = w4 us := ⟨_, rfl⟩
 obtain ⟨uWto, uhWto⟩ : ∃ x, x = u8s uto := ⟨_, rfl⟩
 obtain ⟨uD, uhD⟩ : ∃ x, x = ud.map b8' := ⟨_, rfl⟩
 obtain ⟨uA, uhA⟩ : ∃ x, x = uac.map Ent.row := ⟨_, rfl⟩
 obtain ⟨uB, uhB⟩ : ∃ x, x = ubl.map key := ⟨_, rfl⟩
 obtain ⟨uU, uhU⟩ : ∃ x, x = uau.map Au.row := ⟨_, rfl⟩
 obtain ⟨uIch, uhIch⟩ : ∃ x : Int, x = (uch : Int) := ⟨_, rfl⟩
 obtain ⟨uIno, uhIno⟩ : ∃ x : Int, x = (uno : Int) := ⟨_, rfl⟩
 obtain ⟨uIga, uhIga⟩ : ∃ x : Int, x = (uga : Int) := ⟨_, rfl⟩
 have trow : Tx.row ⟨tty, tch, tno, tpr, tti, tca, tga, tcr, tto, tva, td, tsd, tac, tsac, tbc, tbl, tsbl, tau, tsau, tv, tr, ts⟩ = [.c (.v (.int .i64 tty)), .c (.v (.int .u64 tIch)), .c (.v (.int .u64 tIno)), .r 4 tWpr, .r 4 tWti, .r 4 tWca, .c (.v (.int .u64 tIga)), .c (.v (.bool tcr)), .r 20 tWto, .r 4 tWva, .c (.sl tD tsd), .c (.sl tA tsac), .r 4 tWbc, .c (.sl tB tsbl), .c (.sl tU tsau), .r 4 tWv, .r 4 tWr, .r 4 tWs] := by rw [thWpr, thWti, thWca, thWva, thWbc, thWv, thWr, thWs, thWto, thD, thA, thB, thU, thIch, thIno, thIga]; rfl
 have urow : Tx.row ⟨uty, uch, uno, upr, uti, uca, uga, ucr, uto, uva, ud, usd, uac, usac, ubc, ubl, usbl, uau, usau, uv, ur, us⟩ = [.c (.v (.int .i64 uty)), .c (.v (.int .u64 uIch)), .c (.v (.int .u64 uIno)), .r 4 uWpr, .r 4 uWti, .r 4 uWca, .c (.v (.int .u64 uIga)), .c (.v (.bool ucr)), .r 20 uWto, .r 4 uWva, .c (.sl uD usd), .c (.sl uA usac), .r 4 uWbc, .c (.sl uB usbl), .c (.sl uU usau), .r 4 uWv, .r 4 uWr, .r 4 uWs] := by rw [uhWpr, uhWti, uhWca, uhWva, uhWbc, uhWv, uhWr, uhWs, uhWto, uhD, uhA, uhB, uhU, uhIch, uhIno, uhIga]; rfl
 rw [trow, urow] at hargs
 have hno : Tx.core ⟨tty, tch, tno, tpr, tti, tca, tga, tcr, tto, tva, td, tsd, tac, tsac, tbc, tbl, tsbl, tau, tsau, tv, tr, ts⟩ ≠ Tx.core ⟨uty, uch, uno, upr, uti, uca, uga, ucr, uto, uva, ud, usd, uac, usac, ubc, ubl, usbl, uau, usau, uv, ur, us⟩ → k [.s (.v (.bool false))] := fun h => by
  have : b = false := by
   cases b with
   | false => rfl
   | true => exact absurd (hb.1 rfl) h
  rw [this] at hk; exact hk
 have hyes : Tx.core ⟨tty, tch, tno, tpr, tti, tca, tga, tcr, tto, tva, td, tsd, tac, tsac, tbc, tbl, tsbl, tau, tsau, tv, tr, ts⟩ = Tx.core ⟨uty, uch, uno, upr, uti, uca, uga, ucr, uto, uva, ud, usd, uac, usac, ubc, ubl, usbl, uau, usau, uv, ur, us⟩ → k [.s (.v (.bool true))] := fun h => by rw [hb.2 h] at hk; exact hk
 clear hk
 clear trow urow
 subst hargs
 conv => cbv
 refine ⟨fun h => ?_, fun h => ?_⟩
 rotate_left
 ·have hx : tty ≠ uty := fun e => (cNe har h) (by rw [e])
  have hk := hno (fun e => hx (congrArg Tx.ty e))
  conv => cbv
  exact hk
 have ety : tty = uty := by
  have h3 := cNne har h
  exact h3
 conv => cbv
 refine ⟨fun h => ?_, fun h => ?_⟩
 rotate_left
 ·have hx : tch ≠ uch := fun e => (cNe har h) (by rw [thIch, uhIch, e])
  have hk := hno (fun e => hx (congrArg Tx.ch e))
  conv => cbv
  exact hk
 have ech : tch = uch := by
  have h3 := cNne har h
  rw [thIch, uhIch] at h3; omega
 conv => cbv
 refine ⟨fun h => ?_, fun h => ?_⟩
 rotate_left
 ·have hx : tno ≠ uno := fun e => (cNe har h) (by rw [thIno, uhIno, e])
  have hk := hno (fun e => hx (congrArg Tx.no e))
  conv => cbv
  exact hk
 have eno : tno = uno := by
  have h3 := cNne har h
  rw [thIno, uhIno] at h3; omega
 conv => cbv
 refine ⟨fun _ => ⟨by rw [thWpr]; exact intsW4 _, by rw [uhWpr]; exact intsW4 _⟩, fun h => ?_, fun h => ?_⟩
 rotate_left
 ·have hx : tpr ≠ upr := fun e => by
   have h3 : ar.eqv tWpr uWpr = false := nbT har h
   rw [eqvIs har, thWpr, uhWpr, e, eqV4 huo.pr huo.pr] at h3; simp at h3
  have hk := hno (fun e => hx (congrArg Tx.pr e))
  conv => cbv
  exact hk
 have epr : tpr = upr := by
  have h3 : ar.eqv tWpr uWpr = true := nbF har h
  rw [eqvIs har, thWpr, uhWpr, eqV4 hto.pr huo.pr] at h3; simpa using h3
 conv => cbv
 refine ⟨fun _ => ⟨by rw [thWti]; exact intsW4 _, by rw [uhWti]; exact intsW4 _⟩, fun h => ?_, fun h => ?_⟩
 rotate_left
 ·have hx : tti ≠ uti := fun e => by
   have h3 : ar.eqv tWti uWti = false := nbT har h
   rw [eqvIs har, thWti, uhWti, e, eqV4 huo.ti huo.ti] at h3; simp at h3
  have hk := hno (fun e => hx (congrArg Tx.ti e))
  conv => cbv
  exact hk
 have eti : tti = uti := by
  have h3 : ar.eqv tWti uWti = true := nbF har h
  rw [eqvIs har, thWti, uhWti, eqV4 hto.ti huo.ti] at h3; simpa using h3
 conv => cbv
 refine ⟨fun _ => ⟨by rw [thWca]; exact intsW4 _, by rw [uhWca]; exact intsW4 _⟩, fun h => ?_, fun h => ?_⟩
 rotate_left
 ·have hx : tca ≠ uca := fun e => by
   have h3 : ar.eqv tWca uWca = false := nbT har h
   rw [eqvIs har, thWca, uhWca, e, eqV4 huo.ca huo.ca] at h3; simp at h3
  have hk := hno (fun e => hx (congrArg Tx.ca e))
  conv => cbv
  exact hk
 have eca : tca = uca := by
  have h3 : ar.eqv tWca uWca = true := nbF har h
  rw [eqvIs har, thWca, uhWca, eqV4 hto.ca huo.ca] at h3; simpa using h3
 conv => cbv
 refine ⟨fun h => ?_, fun h => ?_⟩
 rotate_left
 ·have hx : tga ≠ uga := fun e => (cNe har h) (by rw [thIga, uhIga, e])
  have hk := hno (fun e => hx (congrArg Tx.ga e))
  conv => cbv
  exact hk
 have ega : tga = uga := by
  have h3 := cNne har h
  rw [thIga, uhIga] at h3; omega
 conv => cbv
 refine ⟨fun h => ?_, fun h => ?_⟩
 rotate_left
 ·have hx : tcr ≠ ucr := fun e => by
   have h3 : ar.bb .neq tcr ucr = true := h
   rw [bbnIs har, e] at h3; simp at h3
  have hk := hno (fun e => hx (congrArg Tx.cr e))
  conv => cbv
  exact hk
 have ecr : tcr = ucr := by
  have h3 : ar.bb .neq tcr ucr = false := h
  rw [bbnIs har] at h3; simpa using h3
 conv => cbv
 refine ⟨fun _ => ⟨by rw [thWto]; exact ints_u8s _, by rw [uhWto]; exact ints_u8s _⟩, fun h => ?_, fun h => ?_⟩
 ·have hx : tto ≠ uto := fun e => by
   have h3 : ar.eqv tWto uWto = false := nbT har h
   rw [eqvIs har, thWto, uhWto, eqVals_u8s, e] at h3; simp at h3
  have hk := hno (fun e => hx (congrArg Tx.to e))
  conv => cbv
  exact hk
 have eto : tto = uto := by
  have h3 : ar.eqv tWto uWto = true := nbF har h
  rw [eqvIs har, thWto, uhWto, eqVals_u8s] at h3; simpa using h3
 conv => cbv
 refine ⟨fun _ => ⟨by rw [thWva]; exact intsW4 _, by rw [uhWva]; exact intsW4 _⟩, fun h => ?_, fun h => ?_⟩
 rotate_left
 ·have hx : tva ≠ uva := fun e => by
   have h3 : ar.eqv tWva uWva = false := nbT har h
   rw [eqvIs har, thWva, uhWva, e, eqV4 huo.va huo.va] at h3; simp at h3
  have hk := hno (fun e => hx (congrArg Tx.va e))
  conv => cbv
  exact hk
 have eva : tva = uva := by
  have h3 : ar.eqv tWva uWva = true := nbF har h
  rw [eqvIs har, thWva, uhWva, eqV4 hto.va huo.va] at h3; simpa using h3
 conv => cbv
 refine ⟨fun _ => ⟨by rw [thWbc]; exact intsW4 _, by rw [uhWbc]; exact intsW4 _⟩, fun h => ?_, fun h => ?_⟩
 rotate_left
 ·have hx : tbc ≠ ubc := fun e => by
   have h3 : ar.eqv tWbc uWbc = false := nbT har h
   rw [eqvIs har, thWbc, uhWbc, e, eqV4 huo.bc huo.bc] at h3; simp at h3
  have hk := hno (fun e => hx (congrArg Tx.bc e))
  conv => cbv
  exact hk
 have ebc : tbc = ubc := by
  have h3 : ar.eqv tWbc uWbc = true := nbF har h
  rw [eqvIs har, thWbc, uhWbc, eqV4 hto.bc huo.bc] at h3; simpa using h3
 conv => cbv
 refine ⟨fun _ => ⟨by rw [thWv]; exact intsW4 _, by rw [uhWv]; exact intsW4 _⟩, fun h => ?_, fun h => ?_⟩
 rotate_left
 ·have hx : tv ≠ uv := fun e => by
   have h3 : ar.eqv tWv uWv = false := nbT har h
   rw [eqvIs har, thWv, uhWv, e, eqV4 huo.v huo.v] at h3; simp at h3
  have hk := hno (fun e => hx (congrArg Tx.v e))
  conv => cbv
  exact hk
 have ev : tv = uv := by
  have h3 : ar.eqv tWv uWv = true := nbF har h
  rw [eqvIs har, thWv, uhWv, eqV4 hto.v huo.v] at h3; simpa using h3
 conv => cbv
 refine ⟨fun _ => ⟨by rw [thWr]; exact intsW4 _, by rw [uhWr]; exact intsW4 _⟩, fun h => ?_, fun h => ?_⟩
 rotate_left
 ·have hx : tr ≠ ur := fun e => by
   have h3 : ar.eqv tWr uWr = false := nbT har h
   rw [eqvIs har, thWr, uhWr, e, eqV4 huo.r huo.r] at h3; simp at h3
  have hk := hno (fun e => hx (congrArg Tx.r e))
  conv => cbv
  exact hk
 have er : tr = ur := by
  have h3 : ar.eqv tWr uWr = true := nbF har h
  rw [eqvIs har, thWr, uhWr, eqV4 hto.r huo.r] at h3; simpa using h3
 conv => cbv
 refine ⟨fun _ => ⟨by rw [thWs]; exact intsW4 _, by rw [uhWs]; exact intsW4 _⟩, fun h => ?_, fun h => ?_⟩
 rotate_left
 ·have hx : ts ≠ us := fun e => by
   have h3 : ar.eqv tWs uWs = false := nbT har h
   rw [eqvIs har, thWs, uhWs, e, eqV4 huo.s huo.s] at h3; simp at h3
  have hk := hno (fun e => hx (congrArg Tx.s e))
  conv => cbv
  exact hk
 have es : ts = us := by
  have h3 : ar.eqv tWs uWs = true := nbF har h
  rw [eqvIs har, thWs, uhWs, eqV4 hto.s huo.s] at h3; simpa using h3
 conv => cbv
 obtain ⟨bd, hbd⟩ : ∃ b : Bool, (b = true ↔ td = ud) := by
  by_cases e : td = ud
  ·exact ⟨true, by simp [e]⟩
  ·exact ⟨false, by simp [e]⟩
 refine call_by hΓ slEqB_sound ⟨td, ud, tsd, usd, bd, by rw [thD, uhD], by have h5 := hts.d; simp only at h5; omega, fun _ _ => trivial, fun _ _ => trivial, hbd, ?_⟩
 conv => cbv
 refine ⟨fun h => ?_, fun h => ?_⟩
 rotate_left
 ·have hx : td ≠ ud := fun e => by
   have h3 := nbT har h; rw [hbd.2 e] at h3; cases h3
  have hk := hno (fun e => hx (congrArg Tx.d e))
  conv => cbv
  exact hk
 have ed : td = ud := hbd.1 (nbF har h)
 conv => cbv
 obtain ⟨bbl, hbbl⟩ : ∃ b : Bool, (b = true ↔ tbl = ubl) := by
  by_cases e : tbl = ubl
  ·exact ⟨true, by simp [e]⟩
  ·exact ⟨false, by simp [e]⟩
 refine call_by hΓ slEqH_sound ⟨tbl, ubl, tsbl, usbl, bbl, by rw [thB, uhB], by have h5 := hts.bl; simp only at h5; omega, fun _ _ => trivial, fun _ _ => trivial, hbbl, ?_⟩
 conv => cbv
 refine ⟨fun h => ?_, fun h => ?_⟩
 rotate_left
 ·have hx : tbl ≠ ubl := fun e => by
   have h3 := nbT har h; rw [hbbl.2 e] at h3; cases h3
  have hk := hno (fun e => hx (congrArg Tx.bl e))
  conv => cbv
  exact hk
 have ebl : tbl = ubl := hbbl.1 (nbF har h)
 conv => cbv
 obtain ⟨bau, hbau⟩ : ∃ b : Bool, (b = true ↔ tau = uau) := by
  by_cases e : tau = uau
  ·exact ⟨true, by simp [e]⟩
  ·exact ⟨false, by simp [e]⟩
 refine call_by hΓ slEqU_sound ⟨tau, uau, tsau, usau, bau, by rw [thU, uhU], by have h5 := hts.au; simp only at h5; omega, hto.au, huo.au, hbau, ?_⟩
 conv => cbv
 refine ⟨fun h => ?_, fun h => ?_⟩
 ·have hx : tau ≠ uau := fun e => by
   have h3 := nbT har h; rw [hbau.2 e] at h3; cases h3
  have hk := hno (fun e => hx (congrArg Tx.au e))
  conv => cbv
  exact hk
 have eau : tau = uau := hbau.1 (nbF har h)
 conv => cbv
 obtain ⟨bac, hbac⟩ : ∃ b : Bool, (b = true ↔ tac.map Ent.cor = uac.map Ent.cor) := by
  by_cases e : tac.map Ent.cor = uac.map Ent.cor
  ·exact ⟨true, by simp [e]⟩
  ·exact ⟨false, by simp [e]⟩
 have hk : k [.s (.v (.bool bac))] := by
  cases hba : bac with
  | true => exact hyes (by simp only [Tx.core]; rw [hbac.1 hba]; simp only [Tx.mk.injEq]; exact ⟨ety, ech, eno, epr, eti, eca, ega, ecr, eto, eva, ed, trivial, trivial, trivial, ebc, ebl, trivial, eau, trivial, ev, er, es⟩)
  | false => exact hno (fun e => by rw [hbac.2 (congrArg Tx.ac e)] at hba; cases hba)
 refine call_by hΓ eqFunc_sound ⟨tac, uac, tsac, usac, bac, by rw [thA, uhA], by have h5 := hts.ac; simp only at h5; omega, fun e he => by have h5 := hts.ks e he; omega, hbac, ?_⟩
 conv => cbv
 exact hk
end Go.Eng
namespace Go.Eng
open Go Go.Proofs
set_option maxRecDepth 100000
set_option maxHeartbeats 4000000
set_option linter.unusedVariables false
theorem b8'_all (d : List Int) : ∀ y ∈ d.map b8', rlen y = 1 := fun y hy => by
 rw [List.mem_map] at hy; obtain ⟨x, _, rfl⟩ := hy; rfl
theorem key_all (d : List (List Int)) : ∀ y ∈ d.map key, rlen y = 32 := fun y hy => by
 rw [List.mem_map] at hy; obtain ⟨x, _, rfl⟩ := hy; rfl
theorem playCopy_sound : Sound Tryd.prog 65 fun args k => ∃ (d : List Int) (sd : List (List PS)), args = [.s (.sl (d.map b8') sd)] ∧ d.length ≤ 2 ^ 40 ∧ k [.s (.ow (d.map b8') 5 1 1)] := by
 refine Sound.of_bodyO [] 0 tt_ok ent_ok Tryd.func65 rfl ?_
 rintro ar har Γ hΓ args k ⟨d, sd, rfl, hl, hk⟩
 obtain ⟨D, hD⟩ : ∃ D, D = d.map b8' := ⟨_, rfl⟩
 have hD1 : ∀ y ∈ D, rlen y = 1 := by rw [hD]; exact b8'_all d
 have hD2 : D.length = d.length := by rw [hD, List.length_map]
 have hap : ar.app [] D = D := by rw [appIs har]; rfl
 rw [← hD] at hk ⊢
 rw [← hap] at hk
 conv => cbv
 refine ⟨fun _ => ⟨?_, hD1⟩, ?_⟩
 ·show (0 + D.length) * 1 ≤ 140737488355328
  omega
 ·conv => cbv
  exact hk
def a5 : List PS := [.c (.v (.int .u8 165))]
theorem playLent_sound : Sound Tryd.prog 41 fun args k => ∃ (d : List Int) (sd : List (List PS)), args = [.s (.sl (d.map b8') sd)] ∧ d.length ≤ 2 ^ 40 ∧ k [.s (.sl (d.map b8') (List.replicate 70 a5))] := by
 refine Sound.of_body tt_ok ent_ok Tryd.func41 rfl ?_
 rintro ar har Γ hΓ args k ⟨d, sd, hargs, hl, hk⟩
 obtain ⟨D, hD⟩ : ∃ D, D = d.map b8' := ⟨_, rfl⟩
 have hDl : ar.len D = (d.length : Int) := by rw [lenIs har, hD, List.length_map]
 have hDn : D.length = d.length := by rw [hD, List.length_map]
 obtain ⟨R, hR⟩ : ∃ R, R = List.replicate 70 a5 := ⟨_, rfl⟩
 rw [← hD, ← hR] at hk
 have callC : ∀ (Γ : Ctx) (d' : Nat) (k : List PR → Prop) (R : Prop), Γ = ctx Tryd.prog d' → k [.s (.ow D 5 1 1)] → Γ.g 65 [.s (.sl D sd)] k ∨ R := fun Γ d' k R hΓ hk => call_by hΓ playCopy_sound ⟨d, sd, by rw [hD], hl, by rw [← hD]; exact hk⟩
 rw [← hD] at hargs
 subst hargs
 conv => cbv
 refine callC _ _ _ _ hΓ ?_
 conv => cbv
 refine .inr ⟨{ q : Nat × Int × List (List PS) // q.1 ≤ 70 ∧ q.2.1 = q.1 ∧ q.2.2 = D ++ List.replicate q.1 a5 },
  fun q => ⟨mk 18 [(0, .s (.p (.sl D sd))), (3, .s (.own 0)), (4, pint q.1.2.1)], [.arr q.1.2.2 5 1 1 true]⟩,
  fun q => 70 - q.1.1, [], _, ⟨(0, 0, D), Nat.zero_le _, rfl, by simp⟩, rfl, ?_, ?_⟩
 ·conv => cbv
  simp
 ·rintro ⟨⟨p, pi, L⟩, hq⟩
  have hp : p ≤ 70 := hq.1
  have hpi : pi = (p : Int) := hq.2.1
  have hL : L = D ++ List.replicate p a5 := hq.2.2
  have hLl : L.length = d.length + p := by rw [hL, List.length_append, List.length_replicate, hDn]
  dsimp only
  conv => cbv
  refine ⟨fun h => ?_, fun h => ?_⟩
  ·have g' := cLt har (b := 70) h
   have hlt : p < 70 := by omega
   have hL2 : ar.app L [[.c (.v (.int .u8 165))]] = D ++ List.replicate (p + 1) a5 := by
    rw [appIs har, hL, List.append_assoc, List.replicate_succ']; rfl
   have s1 : (L.length + 1) * 1 ≤ 140737488355328 ∧ ∀ y ∈ [[PS.c (.v (.int .u8 165))]], rlen y = 1 := ⟨by omega, by simp [rlen, PS.len]⟩
   conv => cbv
   refine ⟨fun _ => s1, ?_⟩
   refine ⟨⟨(p + 1, ar.ib .add .i64 pi 1, ar.app L [[.c (.v (.int .u8 165))]]), hlt, iSucc har hpi (by omega), hL2⟩, ?_, ?_⟩
   ·dsimp only
    conv => cbv
    simp
   ·show 70 - (p + 1) < 70 - p
    omega
  ·have g' := cNlt har (b := 70) h
   have hpe : p = 70 := by omega
   subst hpe
   have e1 : ar.mid L 0 (ar.nat (ar.len D)) = D := by rw [natOf har hDl, midIs har, hL, ← hDn]; simp
   have e2 : ar.frm L (ar.nat (ar.len D)) = R := by rw [natOf har hDl, frmIs har, hL, ← hDn, hR]; simp
   rw [← e1, ← e2] at hk
   have b1 : 0 ≤ ar.len D ∧ ar.len D ≤ ((L.length + 0 : Nat) : Int) := by rw [hDl]; omega
   conv => cbv
   exact .inr ⟨fun _ => b1, hk⟩
def mkH : List Int := 165 :: 90 :: List.replicate 30 0
def mkA : List Int := 165 :: 90 :: List.replicate 18 0
set_option maxHeartbeats 1000000 in
theorem playLentHashes_sound : Sound Tryd.prog 42 fun args k => ∃ (l : List (List Int)) (sl : List (List PS)), args = [.s (.sl (l.map key) sl)] ∧ l.length ≤ 2 ^ 40 ∧ k [.s (.sl (l.map key) [key mkH, key mkH])] := by
 refine Sound.of_body tt_ok ent_ok Tryd.func42 rfl ?_
 rintro ar har Γ hΓ args k ⟨l, sl, hargs, hl, hk⟩
 obtain ⟨D, hD⟩ : ∃ D, D = l.map key := ⟨_, rfl⟩
 have hDl : ar.len D = (l.length : Int) := by rw [lenIs har, hD, List.length_map]
 have hDn : D.length = l.length := by rw [hD, List.length_map]
 have hD1 : ∀ y ∈ D, rlen y = 32 := by rw [hD]; exact key_all l
 have hap : ar.app [] D = D := by rw [appIs har]; rfl
 rw [← hD] at hk hargs
 subst hargs
 have e1 : ar.mid (ar.app (ar.app [] D) [key mkH, key mkH]) 0 (ar.nat (ar.len D)) = D := by rw [natOf har hDl, midIs har, appIs har, appIs har, ← hDn]; simp
 have e2 : ar.frm (ar.app (ar.app [] D) [key mkH, key mkH]) (ar.nat (ar.len D)) = [key mkH, key mkH] := by rw [natOf har hDl, frmIs har, appIs har, appIs har, ← hDn]; simp
 have hk2 : k [.s (.sl (ar.mid (ar.app (ar.app [] D) [key mkH, key mkH]) 0 (ar.nat (ar.len D))) (ar.frm (ar.app (ar.app [] D) [key mkH, key mkH]) (ar.nat (ar.len D))))] := by rw [e1, e2]; exact hk
 have s1 : (0 + D.length) * 32 ≤ 140737488355328 := by omega
 have s2 : ((ar.app [] D).length + [key mkH, key mkH].length) * 32 ≤ 140737488355328 := by rw [hap]; simp; omega
 have s3 : ∀ y ∈ [key mkH, key mkH], rlen y = 32 := by intro y hy; simp at hy; rw [hy]; rfl
 have s4 : 0 ≤ ar.len D ∧ ar.len D ≤ (((ar.app (ar.app [] D) [key mkH, key mkH]).length + 0 : Nat) : Int) := by rw [appIs har, appIs har, hDl]; simp; omega
 conv => cbv
 exact ⟨fun _ => ⟨s1, hD1⟩, fun _ => ⟨s2, s3⟩, .inr ⟨fun _ => s4, hk2⟩⟩
end Go.Eng
namespace Go.Eng
open Go Go.Proofs
set_option maxRecDepth 100000
set_option maxHeartbeats 4000000
set_option linter.unusedVariables false
def a5s : List (List PS) := List.replicate 70 a5
def mkAu : Au := ⟨0, List.replicate 20 0, 165, 0, 0, 0⟩
def mkE : Ent := ⟨mkA, [], []⟩
def Ent.lent (e : Ent) : Ent := ⟨e.a, e.ks, [key mkH, key mkH]⟩
def Tx.lent (t : Tx) : Tx := { t with sd := a5s, ac := t.ac.map Ent.lent, sac := [mkE.row, mkE.row], sbl := [key mkH, key mkH], sau := [mkAu.row, mkAu.row] }
theorem playLentTx_sound : Sound Tryd.prog 22 fun args k => ∃ t : Tx, args = [.a t.row] ∧ t.small ∧ k [.a t.lent.row] := by
 refine Sound.of_body tt_ok ent_ok Tryd.func22 rfl ?_
 rintro ar har Γ hΓ args k ⟨⟨tty, tch, tno, tpr, tti, tca, tga, tcr, tto, tva, td, tsd, tac, tsac, tbc, tbl, tsbl, tau, tsau, tv, tr, ts⟩, hargs, hs, hk⟩
 obtain ⟨tWpr, thWpr⟩ : ∃ x, x = w4 tpr := ⟨_, rfl⟩
 obtain ⟨tWti, thWti⟩ : ∃ x, x = w4 tti := ⟨_, rfl⟩
 obtain ⟨tWca, thWca⟩ : ∃ x, x = w4 tca := ⟨_, rfl⟩
 obtain ⟨tWva, thWva⟩ : ∃ x, x = w4 tva := ⟨_, rfl⟩
 obtain ⟨tWbc, thWbc⟩ : ∃ x, x = w4 tbc := ⟨_, rfl⟩
 obtain ⟨tWv, thWv⟩ : ∃ x, x = w4 tv := ⟨_, rfl⟩
 obtain ⟨tWr, thWr⟩ : ∃ x, x = w4 tr := ⟨_, rfl⟩
 obtain ⟨tWs, thWs⟩ : ∃ x, x = w4 ts := ⟨_, rfl⟩
 obtain ⟨tWto, thWto⟩ : ∃ x, x = u8s tto := ⟨_, rfl⟩
 obtain ⟨tD, thD⟩ : ∃ x, x = td.map b8' := ⟨_, rfl⟩
 obtain ⟨tA, thA⟩ : ∃ x, x = tac.map Ent.row := ⟨_, rfl⟩
 obtain ⟨tB, thB⟩ : ∃ x, x = tbl.map key := ⟨_, rfl⟩
 obtain ⟨tU, thU⟩ : ∃ x, x = tau.map Au.row := ⟨_, rfl⟩
 obtain ⟨tIch, thIch⟩ : ∃ x : Int, x = (tch : Int) := ⟨_, rfl⟩
 obtain ⟨tIno, thIno⟩ : ∃ x : Int, x = (tno : Int) := ⟨_, rfl⟩
 obtain ⟨tIga, thIga⟩ : ∃ x : Int, x = (tga : Int) := ⟨_, rfl⟩
 have trow : Tx.row ⟨tty, tch, tno, tpr, tti, tca, tga, tcr, tto, tva, td, tsd, tac, tsac, tbc, tbl, tsbl, tau, tsau, tv, tr, ts⟩ = [.c (.v (.int .i64 tty)), .c (.v (.int .u64 tIch)), .c (.v (.int .u64 tIno)), .r 4 tWpr, .r 4 tWti, .r 4 tWca, .c (.v (.int .u64 tIga)), .c (.v (.bool tcr)), .r 20 tWto, .r 4 tWva, .c (.sl tD tsd), .c (.sl tA tsac), .r 4 tWbc, .c (.sl tB tsbl), .c (.sl tU tsau), .r 4 tWv, .r 4 tWr, .r 4 tWs] := by rw [thWpr, thWti, thWca, thWva, thWbc, thWv, thWr, thWs, thWto, thD, thA, thB, thU, thIch, thIno, thIga]; rfl
 rw [trow] at hargs
 obtain ⟨R, hR⟩ : ∃ R, R = a5s := ⟨_, rfl⟩
 obtain ⟨M, hM⟩ : ∃ M, M = [key mkH, key mkH] := ⟨_, rfl⟩
 have hAl : ar.len tA = (tac.length : Int) := by rw [lenIs har, thA, List.length_map]
 have hUl : ar.len tU = (tau.length : Int) := by rw [lenIs har, thU, List.length_map]
 have hUn : tU.length = tau.length := by rw [thU, List.length_map]
 have hU1 : ∀ y ∈ tU, rlen y = 34 := by
  rw [thU]; intro y hy; rw [List.mem_map] at hy; obtain ⟨x, _, rfl⟩ := hy; rfl
 have sd := hs.d
 have sac := hs.ac
 have sks := hs.ks
 have sbl := hs.bl
 have sau := hs.au
 simp only at sd sac sks sbl sau
 have callL : ∀ (Γ : Ctx) (d' : Nat) (k : List PR → Prop) (Q : Prop), Γ = ctx Tryd.prog d' → k [.s (.sl tD R)] → Γ.g 41 [.s (.sl tD tsd)] k ∨ Q := fun Γ d' k Q hΓ hk => call_by hΓ playLent_sound ⟨td, tsd, by rw [thD], by omega, by rw [hR, a5s, thD] at hk; exact hk⟩
 have callH : ∀ (Γ : Ctx) (d' : Nat) (k : List PR → Prop) (Q : Prop), Γ = ctx Tryd.prog d' → k [.s (.sl tB M)] → Γ.g 42 [.s (.sl tB tsbl)] k ∨ Q := fun Γ d' k Q hΓ hk => call_by hΓ playLentHashes_sound ⟨tbl, tsbl, by rw [thB], by omega, by rw [hM, thB] at hk; exact hk⟩
 obtain ⟨mau, hmau⟩ : ∃ m, m = mkAu.row := ⟨_, rfl⟩
 have hap : ar.app [] tU = tU := by rw [appIs har]; rfl
 have s1 : (0 + tU.length) * 136 ≤ 140737488355328 := by omega
 have s2 : ((ar.app [] tU).length + [mkAu.row, mkAu.row].length) * 136 ≤ 140737488355328 := by rw [hap]; simp; omega
 have s3 : ∀ y ∈ [mkAu.row, mkAu.row], rlen y = 34 := by intro y hy; simp at hy; rw [hy]; rfl
 have s4 : 0 ≤ ar.len tU ∧ ar.len tU ≤ (((ar.app (ar.app [] tU) [mkAu.row, mkAu.row]).length + 0 : Nat) : Int) := by rw [appIs har, appIs har, hUl]; simp; omega
 subst hargs
 conv => cbv
 refine callL _ _ _ _ hΓ ?_
 conv => cbv
 refine callH _ _ _ _ hΓ ?_
 conv => cbv
 refine ⟨fun _ => ⟨s1, hU1⟩, fun _ => ⟨s2, s3⟩, .inr ⟨fun _ => s4, ?_⟩⟩
 have f1 : ar.mid (ar.app (ar.app [] tU) [mkAu.row, mkAu.row]) 0 (ar.nat (ar.len tU)) = tU := by rw [natOf har hUl, midIs har, appIs har, appIs har, ← hUn]; simp
 have f2 : ar.frm (ar.app (ar.app [] tU) [mkAu.row, mkAu.row]) (ar.nat (ar.len tU)) = [mkAu.row, mkAu.row] := by rw [natOf har hUl, frmIs har, appIs har, appIs har, ← hUn]; simp
 obtain ⟨AL, hAL⟩ : ∃ L, L = (tac.map Ent.lent).map Ent.row := ⟨_, rfl⟩
 have hfin : Tx.row (Tx.lent ⟨tty, tch, tno, tpr, tti, tca, tga, tcr, tto, tva, td, tsd, tac, tsac, tbc, tbl, tsbl, tau, tsau, tv, tr, ts⟩) = [.c (.v (.int .i64 tty)), .c (.v (.int .u64 tIch)), .c (.v (.int .u64 tIno)), .r 4 tWpr, .r 4 tWti, .r 4 tWca, .c (.v (.int .u64 tIga)), .c (.v (.bool tcr)), .r 20 tWto, .r 4 tWva, .c (.sl tD R), .c (.sl AL [mkE.row, mkE.row]), .r 4 tWbc, .c (.sl tB M), .c (.sl tU [mkAu.row, mkAu.row]), .r 4 tWv, .r 4 tWr, .r 4 tWs] := by rw [hAL, hR, hM, thWpr, thWti, thWca, thWva, thWbc, thWv, thWr, thWs, thWto, thD, thB, thU, thIch, thIno, thIga]; rfl
 rw [hfin] at hk
 refine .inr ⟨{ q : Nat × Int × List (List PS) × List (List PS) × List (List PS) // q.1 ≤ tac.length ∧ q.2.1 = q.1 ∧ q.2.2.1 = ((tac.take q.1).map Ent.lent).map Ent.row ∧ q.2.2.2.1 = tU ∧ q.2.2.2.2 = [mkAu.row, mkAu.row] },
  fun q => ⟨mk 69 [(1, .s (.ptr 0 0)), (2, .s (.ptr 1 0)), (3, .s (.ptr 2 0)), (5, .s (.own 5)), (6, pint q.1.2.1)], [.box [.c (.p (.v (.int .i64 tty))), .c (.p (.v (.int .u64 tIch))), .c (.p (.v (.int .u64 tIno))), .r 4 tWpr, .r 4 tWti, .r 4 tWca, .c (.p (.v (.int .u64 tIga))), .c (.p (.v (.bool tcr))), .r 20 tWto, .r 4 tWva, .c (.p (.sl tD tsd)), .c (.p (.sl tA tsac)), .r 4 tWbc, .c (.p (.sl tB tsbl)), .c (.p (.sl tU tsau)), .r 4 tWv, .r 4 tWr, .r 4 tWs], .box [.c (.lit .i64 0), .c (.lit .u64 0), .c (.lit .u64 0), .r 4 (w4 0), .r 4 (w4 0), .r 4 (w4 0), .c (.lit .u64 0), .c (.bl false), .r 20 (u8s (List.replicate 20 0)), .r 4 (w4 0), .c .nil, .c .nil, .r 4 (w4 0), .c .nil, .c .nil, .r 4 (w4 0), .r 4 (w4 0), .r 4 (w4 0)], .box [.c (.p (.v (.int .i64 tty))), .c (.p (.v (.int .u64 tIch))), .c (.p (.v (.int .u64 tIno))), .r 4 tWpr, .r 4 tWti, .r 4 tWca, .c (.p (.v (.int .u64 tIga))), .c (.p (.v (.bool tcr))), .r 20 tWto, .r 4 tWva, .c (.p (.sl tD R)), .c (.p (.sl tA tsac)), .r 4 tWbc, .c (.p (.sl tB M)), .c (.p (.sl q.1.2.2.2.1 q.1.2.2.2.2)), .r 4 tWv, .r 4 tWr, .r 4 tWs], .gone, .gone, .arr q.1.2.2.1 43 21 48 true]⟩,
  fun q => tac.length - q.1.1, [.slot 5 43], _, ⟨(0, 0, [], ar.mid (ar.app (ar.app [] tU) [mkAu.row, mkAu.row]) 0 (ar.nat (ar.len tU)), ar.frm (ar.app (ar.app [] tU) [mkAu.row, mkAu.row]) (ar.nat (ar.len tU))), Nat.zero_le _, rfl, rfl, f1, f2⟩, rfl, ?_, ?_⟩
 ·conv => cbv
  simp
 ·rintro ⟨⟨p, pi, L, P1, Q1⟩, hq⟩
  have hp : p ≤ tac.length := hq.1
  have hpi : pi = (p : Int) := hq.2.1
  have hL : L = ((tac.take p).map Ent.lent).map Ent.row := hq.2.2.1
  have hP1 : P1 = tU := hq.2.2.2.1
  have hQ1 : Q1 = [mkAu.row, mkAu.row] := hq.2.2.2.2
  have hLl : L.length = p := by rw [hL]; simp; omega
  dsimp only
  conv => cbv
  refine ⟨fun h => ?_, fun h => ?_⟩
  ·have g' := cLt har (b := ar.len tA) h
   have hlt : p < tac.length := by omega
   obtain ⟨x, hx⟩ : ∃ x, tac[p]? = some x := ⟨_, List.getElem?_eq_getElem hlt⟩
   have hxk := sks x (List.mem_of_getElem? hx)
   have hL2 : ((tac.take (p + 1)).map Ent.lent).map Ent.row = L ++ [x.lent.row] := by rw [hL, List.take_add_one, hx]; simp
   obtain ⟨xa, xk, xs1⟩ := x
   obtain ⟨xv, hxv⟩ : ∃ v, v = u8s xa := ⟨_, rfl⟩
   obtain ⟨xl, hxl⟩ : ∃ v, v = xk.map key := ⟨_, rfl⟩
   have hrw : (Ent.mk xa xk xs1).lent.row = [.r 20 xv, .c (.sl xl M)] := by rw [hxv, hxl, hM]; rfl
   rw [hrw] at hL2
   have rx : tA[pi.toNat]? = some [.r 20 xv, .c (.sl xl xs1)] := by rw [thA, hpi]; simp [hx, Ent.row, hxv, hxl]
   have callK : ∀ (Γ : Ctx) (d' : Nat) (k : List PR → Prop), Γ = ctx Tryd.prog d' → k [.s (.sl xl M)] → Γ.g 42 [.s (.sl xl xs1)] k := fun Γ d' k hΓ hk => call_by' hΓ playLentHashes_sound ⟨xk, xs1, by rw [hxl], by simp only at hxk; omega, by rw [hM, hxl] at hk; exact hk⟩
   have t1 : (L.length + 1) * 48 ≤ 140737488355328 ∧ ∀ y ∈ [[PS.r 20 xv, .c (.sl xl M)]], rlen y = 21 := ⟨by omega, by simp [rlen, PS.len]⟩
   conv => cbv
   refine ⟨by rw [har]; kernel_rfl, ?_⟩
   refine ⟨_, by omega, rx, rfl, ?_⟩
   conv => cbv
   refine ⟨_, by omega, rx, rfl, ?_⟩
   conv => cbv
   refine callK _ _ _ hΓ ?_
   conv => cbv
   refine ⟨fun _ => t1, ?_⟩
   refine ⟨⟨(p + 1, ar.ib .add .i64 pi 1, ar.app L [[.r 20 xv, .c (.sl xl M)]], P1, Q1), hlt, iSucc har hpi (by omega), by rw [appIs har, hL2], hP1, hQ1⟩, ?_, ?_⟩
   ·dsimp only
    conv => cbv
    simp
   ·show tac.length - (p + 1) < tac.length - p
    omega
  ·have g' := cNlt har (b := ar.len tA) h
   have hpe : p = tac.length := by omega
   have hLA : L = AL := by rw [hL, hpe, List.take_length, hAL]
   have hLn : L.length = tac.length := by omega
   have u1 : (L.length + [mkE.row, mkE.row].length) * 48 ≤ 140737488355328 := by simp; omega
   have u2 : ∀ y ∈ [mkE.row, mkE.row], rlen y = 21 := by intro y hy; simp at hy; rw [hy]; rfl
   have u3 : 0 ≤ ar.len tA ∧ ar.len tA ≤ (((ar.app L [mkE.row, mkE.row]).length + 0 : Nat) : Int) := by rw [appIs har, hAl]; simp; omega
   have f3 : ar.mid (ar.app L [mkE.row, mkE.row]) 0 (ar.nat (ar.len tA)) = AL := by rw [natOf har hAl, midIs har, appIs har, ← hLA, ← hLn]; simp
   have f4 : ar.frm (ar.app L [mkE.row, mkE.row]) (ar.nat (ar.len tA)) = [mkE.row, mkE.row] := by rw [natOf har hAl, frmIs har, appIs har, ← hLn]; simp
   rw [← f4] at hk
   rw [← f3, ← hP1, ← hQ1] at hk
   conv => cbv
   refine ⟨fun _ => ⟨u1, u2⟩, .inr ⟨fun _ => u3, ?_⟩⟩
   exact hk
theorem lent_ok {t : Tx} (h : t.ok) : t.lent.ok := ⟨h.ty, h.ch, h.no, h.pr, h.ti, h.ca, h.ga, h.to, h.va, fun e he => by
 simp only [Tx.lent, List.mem_map] at he
 obtain ⟨x, hx, rfl⟩ := he
 exact h.ac x hx, h.bc, h.bl, h.au, h.v, h.r, h.s, h.tob, h.db⟩
theorem lent_core (t : Tx) : t.lent.core = t.core := by
 simp only [Tx.lent, Tx.core, List.map_map]
 congr 1
theorem twin15_sound : Sound Tryd.prog 7 fun args k => ∃ t : Tx, args = [.a t.row] ∧ t.small ∧ k [.a t.lent.row] := by
 refine Sound.of_body tt_ok ent_ok Tryd.func7 rfl ?_
 rintro ar har Γ hΓ args k ⟨t, hargs, hs, hk⟩
 obtain ⟨u, hu⟩ : ∃ u, u = t.lent := ⟨_, rfl⟩
 have callL : ∀ (A B : List PS) (Γ : Ctx) (d' : Nat) (k : List PR → Prop) (Q : Prop), Γ = ctx Tryd.prog d' → A = t.row → B = u.row → k [.a B] → Γ.g 22 [.a A] k ∨ Q := fun A B Γ d' k Q hΓ hA hB hk => call_by hΓ playLentTx_sound ⟨t, by rw [hA], hs, by rw [← hu, ← hB]; exact hk⟩
 rw [← hu] at hk
 obtain ⟨tty, tch, tno, tpr, tti, tca, tga, tcr, tto, tva, td, tsd, tac, tsac, tbc, tbl, tsbl, tau, tsau, tv, tr, ts⟩ := t
 obtain ⟨uty, uch, uno, upr, uti, uca, uga, ucr, uto, uva, ud, usd, uac, usac, ubc, ubl, usbl, uau, usau, uv, ur, us⟩ := u
 obtain ⟨tWpr, thWpr⟩ : ∃ x, x = w4 tpr := ⟨_, rfl⟩
 obtain ⟨tWti, thWti⟩ : ∃ x, x = w4 tti := ⟨_, rfl⟩
 obtain ⟨tWca, thWca⟩ : ∃ x, x = w4 tca := ⟨_, rfl⟩
 obtain ⟨tWva, thWva⟩ : ∃ x, x = w4 tva := ⟨_, rfl⟩
 obtain ⟨tWbc, thWbc⟩ : ∃ x, x = w4 tbc := ⟨_, rfl⟩
 obtain ⟨tWv, thWv⟩ : ∃ x, x = w4 tv := ⟨_, rfl⟩
 obtain ⟨tWr, thWr⟩ : ∃ x, x = w4 tr := ⟨_, rfl⟩
 obtain ⟨tWs, thWs⟩ : ∃ x, x = w4 ts := ⟨_, rfl⟩
 obtain ⟨tWto, thWto⟩ : ∃ x, x = u8s tto := ⟨_, rfl⟩
 obtain ⟨tD, thD⟩ : ∃ x, x = td.map b8' := ⟨_, rfl⟩
 obtain ⟨tA, thA⟩ : ∃ x, x = tac.map Ent.row := ⟨_, rfl⟩
 obtain ⟨tB, thB⟩ : ∃ x, x = tbl.map key := ⟨_, rfl⟩
 obtain ⟨tU, thU⟩ : ∃ x, x = tau.map Au.row := ⟨_, rfl⟩
 obtain ⟨tIch, thIch⟩ : ∃ x : Int, x = (tch : Int) := ⟨_, rfl⟩
 obtain ⟨tIno, thIno⟩ : ∃ x : Int, x = (tno : Int) := ⟨_, rfl⟩
 obtain ⟨tIga, thIga⟩ : ∃ x : Int, x = (tga : Int) := ⟨_, rfl⟩
 obtain ⟨uWpr, uhWpr⟩ : ∃ x, x = w4 upr := ⟨_, rfl⟩
 obtain ⟨uWti, uhWti⟩ : ∃ x, x = w4 uti := ⟨_, rfl⟩
 obtain ⟨uWca, uhWca⟩ : ∃ x, x = w4 uca := ⟨_, rfl⟩
 obtain ⟨uWva, uhWva⟩ : ∃ x, x = w4 uva := ⟨_, rfl⟩
 obtain ⟨uWbc, uhWbc⟩ : ∃ x, x = w4 ubc := ⟨_, rfl⟩
 obtain ⟨uWv, uhWv⟩ : ∃ x, x = w4 uv := ⟨_, rfl⟩
 obtain ⟨uWr, uhWr⟩ : ∃ x, x = w4 ur := ⟨_, rfl⟩
 obtain ⟨uWs, uhWs⟩ : ∃ x, x = w4 us := ⟨_, rfl⟩
 obtain ⟨uWto, uhWto⟩ : ∃ x, x = u8s uto := ⟨_, rfl⟩
 obtain ⟨uD, uhD⟩ : ∃ x, x = ud.map b8' := ⟨_, rfl⟩
 obtain ⟨uA, uhA⟩ : ∃ x, x = uac.map Ent.row := ⟨_, rfl⟩
 obtain ⟨uB, uhB⟩ : ∃ x, x = ubl.map key := ⟨_, rfl⟩
 obtain ⟨uU, uhU⟩ : ∃ x, x = uau.map Au.row := ⟨_, rfl⟩
 obtain ⟨uIch, uhIch⟩ : ∃ x : Int, x = (uch : Int) := ⟨_, rfl⟩
 obtain ⟨uIno, uhIno⟩ : ∃ x : Int, x = (uno : Int) := ⟨_, rfl⟩
 obtain ⟨uIga, uhIga⟩ : ∃ x : Int, x = (uga : Int) := ⟨_, rfl⟩
 have trow : Tx.row ⟨tty, tch, tno, tpr, tti, tca, tga, tcr, tto, tva, td, tsd, tac, tsac, tbc, tbl, tsbl, tau, tsau, tv, tr, ts⟩ = [.c (.v (.int .i64 tty)), .c (.v (.int .u64 tIch)), .c (.v (.int .u64 tIno)), .r 4 tWpr, .r 4 tWti, .r 4 tWca, .c (.v (.int .u64 tIga)), .c (.v (.bool tcr)), .r 20 tWto, .r 4 tWva, .c (.sl tD tsd), .c (.sl tA tsac), .r 4 tWbc, .c (.sl tB tsbl), .c (.sl tU tsau), .r 4 tWv, .r 4 tWr, .r 4 tWs] := by rw [thWpr, thWti, thWca, thWva, thWbc, thWv, thWr, thWs, thWto, thD, thA, thB, thU, thIch, thIno, thIga]; rfl
 have urow : Tx.row ⟨uty, uch, uno, upr, uti, uca, uga, ucr, uto, uva, ud, usd, uac, usac, ubc, ubl, usbl, uau, usau, uv, ur, us⟩ = [.c (.v (.int .i64 uty)), .c (.v (.int .u64 uIch)), .c (.v (.int .u64 uIno)), .r 4 uWpr, .r 4 uWti, .r 4 uWca, .c (.v (.int .u64 uIga)), .c (.v (.bool ucr)), .r 20 uWto, .r 4 uWva, .c (.sl uD usd), .c (.sl uA usac), .r 4 uWbc, .c (.sl uB usbl), .c (.sl uU usau), .r 4 uWv, .r 4 uWr, .r 4 uWs] := by rw [uhWpr, uhWti, uhWca, uhWva, uhWbc, uhWv, uhWr, uhWs, uhWto, uhD, uhA, uhB, uhU, uhIch, uhIno, uhIga]; rfl
 rw [trow] at hargs
 rw [urow] at hk
 subst hargs
 conv => cbv
 refine callL _ [.c (.v (.int .i64 uty)), .c (.v (.int .u64 uIch)), .c (.v (.int .u64 uIno)), .r 4 uWpr, .r 4 uWti, .r 4 uWca, .c (.v (.int .u64 uIga)), .c (.v (.bool ucr)), .r 20 uWto, .r 4 uWva, .c (.sl uD usd), .c (.sl uA usac), .r 4 uWbc, .c (.sl uB usbl), .c (.sl uU usau), .r 4 uWv, .r 4 uWr, .r 4 uWs] _ _ _ _ hΓ trow.symm urow.symm ?_
 conv => cbv
 exact hk
end Go.Eng
namespace Go.Eng
open Go Go.Proofs
set_option maxRecDepth 100000
set_option maxHeartbeats 4000000
set_option linter.unusedVariables false
def kindR : List Int → Int × List Int × Int
 | [] => (0, [], 0)
 | c :: b => if 192 ≤ c then (0, c :: b, 0) else if 128 ≤ c then (0, [], 157) else if c = 0 ∨ 5 ≤ c then (0, [], 150) else (c, b, 0)
theorem kind15_sound : Sound Tryd.prog 43 fun args k => ∃ (c : Int) (b : List Int) (sd : List (List PS)), args = [.s (.sl ((c :: b).map b8) sd)] ∧ bytesOk (c :: b) ∧ b.length ≤ 2 ^ 40 ∧ (∀ z ∈ sd, rlen z = 1) ∧
  ∀ s, (∀ z ∈ s, rlen z = 1) → k [.s (.v (.int .i64 (kindR (c :: b)).1)), .s (.sl ((kindR (c :: b)).2.1.map b8) s), .s (.v (.int .i64 (kindR (c :: b)).2.2))] := by
 refine Sound.of_body tt_ok ent_ok Tryd.func43 rfl ?_
 rintro ar har Γ hΓ args k ⟨c, b, sd, hargs, hok, hl, hsd, hk⟩
 obtain ⟨D, hD⟩ : ∃ D, D = (c :: b).map b8 := ⟨_, rfl⟩
 have hcr := hok c (by simp)
 have hDn : D.length = b.length + 1 := by rw [hD, List.length_map, List.length_cons]
 have hDy : ∀ z ∈ D, rlen z = 1 := by rw [hD]; exact b8_all _
 have rb : D[(0 : Int).toNat]? = some [.c (.v (.int .u8 c))] := by rw [hD]; rfl
 have hb0 : (0 : Int) ≤ 0 := Int.le_refl 0
 have e1 : ar.frm D 1 = b.map b8 := by rw [frmIs har, hD]; rfl
 obtain ⟨C, hC⟩ : ∃ C, ar.cv .i64 c = C := ⟨_, rfl⟩
 have hCc : C = c := by rw [← hC, cvI64 har (by omega)]
 rw [← hD] at hargs
 simp only [kindR] at hk
 have s2 : (0 : Int) ≤ 1 ∧ (1 : Int) ≤ (D.length : Int) ∧ (∀ z ∈ D, rlen z = 1) ∧ ∀ z ∈ sd, rlen z = 1 := ⟨by omega, by omega, hDy, hsd⟩
 conv at hC => lhs; cbv
 subst hargs
 conv => cbv
 refine ⟨_, hb0, rb, rfl, ?_⟩
 conv => cbv
 rw [hC]
 refine ⟨fun h => ?_, fun h => ?_⟩
 ·have g := cGe har (a := C) (b := 192) h
  rw [if_pos (by omega)] at hk
  have hk := hk sd hsd
  rw [← hD] at hk
  conv => cbv
  exact hk
 have g := cNge har (a := C) (b := 192) h
 rw [if_neg (by omega)] at hk
 conv => cbv
 refine ⟨fun h => ?_, fun h => ?_⟩
 ·have g2 := cGe har (a := C) (b := 128) h
  rw [if_pos (by omega)] at hk
  have hk := hk [] (by simp)
  conv => cbv
  exact hk
 have g2 := cNge har (a := C) (b := 128) h
 rw [if_neg (by omega)] at hk
 conv => cbv
 have fail : (c = 0 ∨ 5 ≤ c) → k [.s (.v (.int .i64 0)), .s (.sl [] []), .s (.v (.int .i64 150))] := fun h => by
  rw [if_pos h] at hk; exact hk [] (by simp)
 refine ⟨fun h => ?_, fun h => ?_⟩
 rotate_left
 ·have g3 := cEq har (a := C) (b := 0) h
  have hk := fail (.inl (by omega))
  conv => cbv
  exact hk
 have g3 := cNeq har (a := C) (b := 0) h
 conv => cbv
 refine ⟨fun h => ?_, fun h => ?_⟩
 ·have g4 := cGe har (a := C) (b := 5) h
  have hk := fail (.inr (by omega))
  conv => cbv
  exact hk
 have g4 := cNge har (a := C) (b := 5) h
 rw [if_neg (by omega)] at hk
 have hk := hk sd hsd
 rw [← e1, ← hCc] at hk
 conv => cbv
 exact ⟨by rw [har]; kernel_rfl, fun _ => s2, hk⟩
theorem wanted_sound : Sound Tryd.prog 45 fun args k => ∃ (it : It) (l : Bool), args = [.a it.row, .s (.v (.bool l))] ∧ k [.s (.v (.int .i64 (if it.l = l then 0 else 75)))] := by
 refine Sound.of_body tt_ok ent_ok Tryd.func45 rfl ?_
 rintro ar har Γ hΓ args k ⟨⟨a, d, sd, its, ss⟩, l, hargs, hk⟩
 obtain ⟨D, hD⟩ : ∃ D, D = d.map b8 := ⟨_, rfl⟩
 obtain ⟨I, hI⟩ : ∃ I, I = rowsOf its := ⟨_, rfl⟩
 have hrow : (It.mk a d sd its ss).row = [.c (.v (.bool a)), .c (.sl D sd), .c (.sl I ss)] := by rw [hD, hI]; rfl
 have hk : k [.s (.v (.int .i64 (if a = l then 0 else 75)))] := hk
 have hb : ar.bb .neq a l = !(a == l) := bbnIs har a l
 rw [hrow] at hargs
 clear hrow hD hI
 subst hargs
 conv => cbv
 refine ⟨fun h => ?_, fun h => ?_⟩
 ·have g : a ≠ l := fun e => by
   have h2 : ar.bb .neq a l = true := h
   rw [hb, e] at h2; simp at h2
  rw [if_neg g] at hk
  conv => cbv
  exact hk
 ·have g : a = l := by
   have h2 : ar.bb .neq a l = false := h
   rw [hb] at h2; simpa using h2
  rw [if_pos g] at hk
  conv => cbv
  exact hk
def It.getText (it : It) : List Int × Int := if it.ke false = 0 then (it.d, 0) else ([], it.ke false)
theorem getText_sound : Sound Tryd.prog 69 fun args k => ∃ (it : It), args = [.a it.row] ∧ it.bulk ≤ 2 ^ 40 ∧ k [.s (.sl (it.getText.1.map b8) []), .s (.v (.int .i64 it.getText.2))] := by
 refine Sound.of_body tt_ok ent_ok Tryd.func69 rfl ?_
 rintro ar har Γ hΓ args k ⟨⟨l, d, sd, its, ss⟩, hargs, hb, hk⟩
 obtain ⟨e, he⟩ : ∃ e, e = (It.mk l d sd its ss).ke false := ⟨_, rfl⟩
 obtain ⟨D, hD⟩ : ∃ D, D = d.map b8 := ⟨_, rfl⟩
 obtain ⟨I, hI⟩ : ∃ I, I = rowsOf its := ⟨_, rfl⟩
 have hrow : (It.mk l d sd its ss).row = [.c (.v (.bool l)), .c (.sl D sd), .c (.sl I ss)] := by rw [hD, hI]; rfl
 have hd : d.length ≤ 2 ^ 40 := by simp only [It.bulk] at hb; omega
 have hg : (It.mk l d sd its ss).getText = if e = 0 then (d, 0) else ([], e) := by rw [he]; rfl
 have callK : ∀ (Γ : Ctx) (d' : Nat) (k : List PR → Prop) (R : Prop), Γ = ctx Tryd.prog d' → k [.s (.v (.int .i64 e))] → Γ.g 83 [.a [.c (.v (.bool l)), .c (.sl D sd), .c (.sl I ss)], .s (.v (.bool false))] k ∨ R := fun Γ d' k R hΓ hk => call_by hΓ kind_sound ⟨.mk l d sd its ss, false, by rw [hrow], by rw [he] at hk; exact hk⟩
 have callC : ∀ (Γ : Ctx) (d' : Nat) (k : List PR → Prop) (R : Prop), Γ = ctx Tryd.prog d' → k [.s (.sl D [])] → Γ.g 52 [.s (.sl D sd)] k ∨ R := fun Γ d' k R hΓ hk => call_by hΓ clone_sound ⟨d, sd, by rw [hD], hd, by rw [← hD]; exact hk⟩
 rw [hg] at hk
 rw [hrow] at hargs
 clear hg he
 subst hargs
 conv => cbv
 refine callK _ _ _ _ hΓ ?_
 conv => cbv
 refine ⟨fun h => ?_, fun h => ?_⟩
 ·have g := cNe har (a := e) (b := 0) h
  rw [if_neg g] at hk
  conv => cbv
  exact hk
 ·have g := cNne har (a := e) (b := 0) h
  rw [if_pos g] at hk
  have hk : k [.s (.sl D []), .s (.v (.int .i64 0))] := by rw [hD]; exact hk
  conv => cbv
  refine callC _ _ _ _ hΓ ?_
  conv => cbv
  exact hk
end Go.Eng
namespace Go.Eng
open Go Go.Proofs
set_option linter.unusedVariables false
def setNum (u : Tx) (f : Int) (n : Nat) : Tx :=
 if f = 2 then { u with pr := n } else if f = 3 then { u with ti := n } else if f = 4 then { u with ca := n } else if f = 7 then { u with va := n } else if f = 10 then { u with bc := n }
 else if f = 13 then { u with v := n } else if f = 14 then { u with r := n } else { u with s := n }
def onE {α : Type} (e : Int) (x : α) : Except Int α := if e = 0 then .ok x else .error e
def recvR (u : Tx) (x : It) : Except Int Tx :=
 if x.l = false then (if x.d.length = 0 then .ok { u with cr := true } else if x.d.length = 20 then .ok { u with to := x.d } else .error 77) else .error 75
def blobE : List It → Int
 | [] => 0
 | y :: l => if (y.getFixed 32).2 = 0 then blobE l else (y.getFixed 32).2
def blobL (l : List It) : List (List Int) := l.map fun y => (y.getFixed 32).1
def blobR (u : Tx) (x : It) : Except Int Tx :=
 if x.l = true then onE (blobE x.its) { u with bl := blobL x.its, sbl := [] } else .error 75
def readF (u : Tx) (f : Int) (x : It) : Except Int Tx :=
 if f = 0 then onE (x.num 8).2 { u with ch := (x.num 8).1 } else if f = 1 then onE (x.num 8).2 { u with no := (x.num 8).1 } else if f = 5 then onE (x.num 8).2 { u with ga := (x.num 8).1 }
 else if f = 6 then recvR u x else if f = 8 then onE x.getText.2 { u with d := x.getText.1, sd := [] }
 else if f = 9 then (match parseOf x with | some es => .ok { u with ac := es, sac := [] } | none => .error 140)
 else if f = 11 then blobR u x
 else if f = 12 then (match parseAOf x with | some us => .ok { u with au := us, sau := [] } | none => .error 141)
 else onE (x.num 32).2 (setNum u f (x.num 32).1)
def decF (u : Tx) : List Int → List It → Except Int Tx
 | f :: fs, x :: xs => match readF u f x with
  | .error e => .error e
  | .ok u' => decF u' fs xs
 | _, _ => .ok u
def zeroTx (ty : Int) : Tx := ⟨ty, 0, 0, 0, 0, 0, 0, false, z20s, 0, [], [], [], [], 0, [], [], [], [], 0, 0, 0⟩
def finTx (u : Tx) : Except Int Tx := onE (encR u).2 u
def endTx (u : Tx) : Except Int Tx := if u.ty = 0 then (if chE u.v = 0 then finTx { u with ch := chC u.v } else .error (chE u.v)) else finTx u
def fieldsTx (ty : Int) (it : It) : Except Int Tx :=
 if it.l = true then (if it.its.length = (txFs ty).length then (match decF (zeroTx ty) (txFs ty) it.its with | .error e => .error e | .ok u => endTx u) else .error 151) else .error 75
def decTx (d : List Int) : Except Int Tx :=
 if (kindR d).2.2 = 0 then (match decR (kindR d).2.1 with | .error e => .error e | .ok it => fieldsTx (kindR d).1 it) else .error (kindR d).2.2
theorem onE_ok {α : Type} {e : Int} {x y : α} (h : onE e x = .ok y) : e = 0 ∧ x = y := by
 unfold onE at h
 split at h
 ·rename_i h0; cases h; exact ⟨h0, rfl⟩
 ·cases h
theorem blobE_zero : ∀ {l : List It}, blobE l = 0 → ∀ y ∈ l, (y.getFixed 32).2 = 0
 | [], _, y, hy => by cases hy
 | x :: l, h, y, hy => by
  unfold blobE at h
  split at h
  ·rename_i h0
   rcases List.mem_cons.1 hy with rfl | hy
   ·exact h0
   ·exact blobE_zero h y hy
  ·rename_i h0; exact absurd h h0
theorem blobE_append (a : List It) (y : It) : blobE a = 0 → blobE (a ++ [y]) = (y.getFixed 32).2 := by
 induction a with
 | nil => intro _; simp only [List.nil_append, blobE]; split <;> simp_all
 | cons x a ih =>
  intro h
  have hx := blobE_zero h x (by simp)
  have ha : blobE a = 0 := by unfold blobE at h; rw [if_pos hx] at h; exact h
  simp only [List.cons_append, blobE]
  rw [if_pos hx]
  exact ih ha
theorem blobE_first {a b : List It} {y : It} (h : blobE a = 0) (hy : (y.getFixed 32).2 ≠ 0) : blobE (a ++ y :: b) = (y.getFixed 32).2 := by
 induction a with
 | nil => simp only [List.nil_append, blobE]; rw [if_neg hy]
 | cons x a ih =>
  have hx := blobE_zero h x (by simp)
  have ha : blobE a = 0 := by unfold blobE at h; rw [if_pos hx] at h; exact h
  simp only [List.cons_append, blobE]
  rw [if_pos hx]
  exact ih ha
theorem setNum_ok {u : Tx} (h : u.ok) {n : Nat} (hn : n < M256) (f : Int) : (setNum u f n).ok := by
 unfold setNum
 obtain ⟨h1, h2, h3, h4, h5, h6, h7, h8, h9, h10, h11, h12, h13, h14, h15, h16, h17, h18⟩ := h
 (repeat' split) <;> exact ⟨by assumption, by assumption, by assumption, by first | exact hn | assumption, by first | exact hn | assumption, by first | exact hn | assumption, by assumption, by assumption, by first | exact hn | assumption, by assumption, by first | exact hn | assumption, by assumption, by assumption, by first | exact hn | assumption, by first | exact hn | assumption, by first | exact hn | assumption, by assumption, by assumption⟩
theorem readF_ok {u u' : Tx} {f : Int} {x : It} (h : u.ok) (hb : x.byt) (hr : readF u f x = .ok u') : u'.ok := by
 have n8 : (x.num 8).1 < 18446744073709551616 := num_lt hb
 have n32 : (x.num 32).1 < M256 := num_lt hb
 have hbd : bytesOk x.d := by cases x; exact hb.1
 unfold readF at hr
 split at hr
 ·obtain ⟨_, rfl⟩ := onE_ok hr
  exact { h with ch := n8 }
 ·split at hr
  ·obtain ⟨_, rfl⟩ := onE_ok hr
   exact { h with no := n8 }
  ·split at hr
   ·obtain ⟨_, rfl⟩ := onE_ok hr
    exact { h with ga := n8 }
   ·split at hr
    ·unfold recvR at hr
     split at hr
     ·split at hr
      ·cases hr; exact { h with }
      ·split at hr
       ·rename_i h20; cases hr; exact { h with to := h20, tob := hbd }
       ·cases hr
     ·cases hr
    ·split at hr
     ·obtain ⟨h0, rfl⟩ := onE_ok hr
      refine { h with db := ?_ }
      unfold It.getText at h0 ⊢
      split
      ·exact hbd
      ·intro b hb; cases hb
     ·split at hr
      ·split at hr
       ·rename_i es hes
        cases hr
        refine { h with ac := fun e he => ?_ }
        have h2 := (parse_strip hes).2 e he
        have h3 := (parse_strip hes).1
        have h4 : (It.lst (esIts es)).byt := by rw [← h3]; exact byt_strip x hb
        have h5 : e.it.byt := byts_mem h4.2 (List.mem_map.2 ⟨e, he, rfl⟩)
        obtain ⟨_, ha, hk, _⟩ := h5
        refine ⟨h2.1, ha.1, fun w hw => ⟨h2.2 w hw, ?_⟩⟩
        exact (byts_mem hk.2 (List.mem_map.2 ⟨w, hw, rfl⟩)).1
       ·cases hr
      ·split at hr
       ·unfold blobR at hr
        split at hr
        ·obtain ⟨h0, rfl⟩ := onE_ok hr
         refine { h with bl := fun w hw => ?_ }
         obtain ⟨y, hy, rfl⟩ := List.mem_map.1 hw
         have h1 := blobE_zero h0 y hy
         have hby : byts x.its := by cases x; exact hb.2
         exact ⟨getFixed_len h1, getFixed_byt (byts_mem hby hy) h1⟩
        ·cases hr
       ·split at hr
        ·split at hr
         ·rename_i us hus
          cases hr
          exact { h with au := (parseA_strip hb hus).2.1 }
         ·cases hr
        ·obtain ⟨_, rfl⟩ := onE_ok hr
         exact setNum_ok h n32 f
structure Tx.lim (t : Tx) (n : Nat) : Prop where
 d : t.d.length ≤ n
 ac : bulks (esIts t.ac) ≤ n
 bl : 33 * t.bl.length ≤ n
 au : bulks (usIts t.au) ≤ n
theorem Tx.lim.mono {t : Tx} {n m : Nat} (h : t.lim n) (hm : n ≤ m) : t.lim m := ⟨Nat.le_trans h.d hm, Nat.le_trans h.ac hm, Nat.le_trans h.bl hm, Nat.le_trans h.au hm⟩
theorem Tx.lim.fit {t : Tx} (h : t.lim (2 ^ 26)) : t.fit := ⟨by have := h.d; omega, by have := h.ac; omega, by have := h.bl; omega, by have := h.au; omega⟩
theorem us_least : ∀ {us : List Au}, (∀ u ∈ us, u.a.length = 20) → 21 * us.length ≤ bulks (usIts us)
 | [], _ => Nat.zero_le _
 | u :: us, h => by
  have h1 := us_least (us := us) fun x hx => h x (by simp [hx])
  have h2 := h u (by simp)
  show _ ≤ u.it.bulk + bulks (usIts us)
  have h3 : 21 ≤ u.it.bulk := by
   simp only [Au.it, It.lst, It.bulk, Au.parts, bulks, numIt, It.txt, h2, List.length_nil]; omega
  rw [List.length_cons]; omega
theorem setNum_lim {u : Tx} {m : Nat} (h : u.lim m) (f : Int) (n : Nat) : (setNum u f n).lim m := by
 unfold setNum
 (repeat' split) <;> exact ⟨h.d, h.ac, h.bl, h.au⟩
theorem readF_lim {u u' : Tx} {f : Int} {x : It} {n : Nat} (h : u.lim n) (hb : x.byt) (hx : x.bulk ≤ n) (hr : readF u f x = .ok u') : u'.lim n := by
 have hbu := strip_bulk x
 unfold readF at hr
 split at hr
 ·obtain ⟨_, rfl⟩ := onE_ok hr; exact { h with }
 ·split at hr
  ·obtain ⟨_, rfl⟩ := onE_ok hr; exact { h with }
  ·split at hr
   ·obtain ⟨_, rfl⟩ := onE_ok hr; exact { h with }
   ·split at hr
    ·unfold recvR at hr
     split at hr
     ·split at hr
      ·cases hr; exact { h with }
      ·split at hr
       ·cases hr; exact { h with }
       ·cases hr
     ·cases hr
    ·split at hr
     ·obtain ⟨h0, rfl⟩ := onE_ok hr
      refine { h with d := ?_ }
      show x.getText.1.length ≤ n
      unfold It.getText
      split
      ·cases x; simp only [It.bulk] at hx; show List.length _ ≤ n; simp only [It.d]; omega
      ·exact Nat.zero_le _
     ·split at hr
      ·split at hr
       ·rename_i es hes
        cases hr
        have h3 := (parse_strip hes).1
        have h4 : (It.lst (esIts es)).bulk = x.bulk := by rw [← h3, hbu]
        simp only [It.lst, It.bulk, List.length_nil] at h4
        refine { h with ac := ?_ }
        show bulks (esIts es) ≤ n
        omega
       ·cases hr
      ·split at hr
       ·unfold blobR at hr
        split at hr
        ·obtain ⟨h0, rfl⟩ := onE_ok hr
         refine { h with bl := ?_ }
         have key : ∀ l : List It, (∀ y ∈ l, (y.getFixed 32).2 = 0) → 33 * l.length ≤ bulks l := by
          intro l
          induction l with
          | nil => intro _; exact Nat.zero_le _
          | cons y l ih =>
           intro hl
           have h1 := getFixed_strip (hl y (by simp))
           have h2 := getFixed_len (hl y (by simp))
           have h3 := strip_bulk y
           rw [h1] at h3
           simp only [It.txt, It.bulk, bulks, h2] at h3
           have := ih fun z hz => hl z (by simp [hz])
           simp only [List.length_cons, bulks]; omega
         have h5 := key x.its (blobE_zero h0)
         show 33 * (blobL x.its).length ≤ n
         rw [blobL, List.length_map]
         cases x; simp only [It.bulk] at hx; simp only [It.its] at h5 ⊢; omega
        ·cases hr
       ·split at hr
        ·split at hr
         ·rename_i us hus
          cases hr
          obtain ⟨h3, h4, _⟩ := parseA_strip hb hus
          have h5 := us_least (us := us) fun u hu => (h4 u hu).1.2.1
          have h6 : (It.lst (usIts us)).bulk = x.bulk := by rw [← h3, hbu]
          simp only [It.lst, It.bulk, List.length_nil] at h6
          refine { h with au := ?_ }
          show bulks (usIts us) ≤ n
          omega
         ·cases hr
        ·obtain ⟨_, rfl⟩ := onE_ok hr
         exact setNum_lim h f _
theorem setNum_ty (u : Tx) (f : Int) (n : Nat) : (setNum u f n).ty = u.ty := by unfold setNum; (repeat' split) <;> rfl
theorem readF_ty {u u' : Tx} {f : Int} {x : It} (hr : readF u f x = .ok u') : u'.ty = u.ty := by
 unfold readF at hr
 split at hr
 ·obtain ⟨_, rfl⟩ := onE_ok hr; rfl
 ·split at hr
  ·obtain ⟨_, rfl⟩ := onE_ok hr; rfl
  ·split at hr
   ·obtain ⟨_, rfl⟩ := onE_ok hr; rfl
   ·split at hr
    ·unfold recvR at hr
     split at hr
     ·split at hr
      ·cases hr; rfl
      ·split at hr
       ·cases hr; rfl
       ·cases hr
     ·cases hr
    ·split at hr
     ·obtain ⟨h0, rfl⟩ := onE_ok hr; rfl
     ·split at hr
      ·split at hr
       ·cases hr; rfl
       ·cases hr
      ·split at hr
       ·unfold blobR at hr
        split at hr
        ·obtain ⟨h0, rfl⟩ := onE_ok hr; rfl
        ·cases hr
       ·split at hr
        ·split at hr
         ·cases hr; rfl
         ·cases hr
        ·obtain ⟨_, rfl⟩ := onE_ok hr
         exact setNum_ty u f _
theorem readF_bl {u u' : Tx} {f : Int} {x : It} (hf : f ≠ 11) (hr : readF u f x = .ok u') : u'.bl = u.bl := by
 unfold readF at hr
 split at hr
 ·obtain ⟨_, rfl⟩ := onE_ok hr; rfl
 ·split at hr
  ·obtain ⟨_, rfl⟩ := onE_ok hr; rfl
  ·split at hr
   ·obtain ⟨_, rfl⟩ := onE_ok hr; rfl
   ·split at hr
    ·unfold recvR at hr
     split at hr
     ·split at hr
      ·cases hr; rfl
      ·split at hr
       ·cases hr; rfl
       ·cases hr
     ·cases hr
    ·split at hr
     ·obtain ⟨h0, rfl⟩ := onE_ok hr; rfl
     ·split at hr
      ·split at hr
       ·cases hr; rfl
       ·cases hr
      ·split at hr
       ·split at hr
        ·cases hr; rfl
        ·cases hr
       ·obtain ⟨_, rfl⟩ := onE_ok hr
        unfold setNum; (repeat' split) <;> rfl
theorem rF0 (u : Tx) (x : It) : readF u 0 x = onE (x.num 8).2 { u with ch := (x.num 8).1 } := by unfold readF; rw [if_pos rfl]
theorem rF1 (u : Tx) (x : It) : readF u 1 x = onE (x.num 8).2 { u with no := (x.num 8).1 } := by unfold readF; rw [if_neg (by decide), if_pos rfl]
theorem rF5 (u : Tx) (x : It) : readF u 5 x = onE (x.num 8).2 { u with ga := (x.num 8).1 } := by unfold readF; rw [if_neg (by decide), if_neg (by decide), if_pos rfl]
theorem rF6 (u : Tx) (x : It) : readF u 6 x = recvR u x := by unfold readF; rw [if_neg (by decide), if_neg (by decide), if_neg (by decide), if_pos rfl]
theorem rF8 (u : Tx) (x : It) : readF u 8 x = onE x.getText.2 { u with d := x.getText.1, sd := [] } := by unfold readF; rw [if_neg (by decide), if_neg (by decide), if_neg (by decide), if_neg (by decide), if_pos rfl]
theorem rF9 (u : Tx) (x : It) : readF u 9 x = match parseOf x with | some es => .ok { u with ac := es, sac := [] } | none => .error 140 := by unfold readF; rw [if_neg (by decide), if_neg (by decide), if_neg (by decide), if_neg (by decide), if_neg (by decide), if_pos rfl]
theorem rF11 (u : Tx) (x : It) : readF u 11 x = blobR u x := by unfold readF; rw [if_neg (by decide), if_neg (by decide), if_neg (by decide), if_neg (by decide), if_neg (by decide), if_neg (by decide), if_pos rfl]
theorem rF12 (u : Tx) (x : It) : readF u 12 x = match parseAOf x with | some us => .ok { u with au := us, sau := [] } | none => .error 141 := by unfold readF; rw [if_neg (by decide), if_neg (by decide), if_neg (by decide), if_neg (by decide), if_neg (by decide), if_neg (by decide), if_neg (by decide), if_pos rfl]
theorem rFn {f : Int} (h0 : f ≠ 0) (h1 : f ≠ 1) (h5 : f ≠ 5) (h6 : f ≠ 6) (h8 : f ≠ 8) (h9 : f ≠ 9) (h11 : f ≠ 11) (h12 : f ≠ 12) (u : Tx) (x : It) : readF u f x = onE (x.num 32).2 (setNum u f (x.num 32).1) := by
 unfold readF; rw [if_neg h0, if_neg h1, if_neg h5, if_neg h6, if_neg h8, if_neg h9, if_neg h11, if_neg h12]
theorem onE_err {α : Type} {e : Int} (x : α) (h : e ≠ 0) : onE e x = .error e := if_neg h
theorem onE_fine {α : Type} {e : Int} (x : α) (h : e = 0) : onE e x = .ok x := if_pos h
theorem txFs_nodup {ty : Int} (h : 0 ≤ ty ∧ ty < 5) : (txFs ty).Nodup := by
 have h2 : ty = 0 ∨ ty = 1 ∨ ty = 2 ∨ ty = 3 ∨ ty = 4 := by omega
 rcases h2 with rfl | rfl | rfl | rfl | rfl <;> decide
theorem txFs_new {ty : Int} (h : 0 ≤ ty ∧ ty < 5) {p : Nat} {f : Int} (hf : (txFs ty)[p]? = some f) : f ∉ (txFs ty).take p := fun hm => by
 have h1 := txFs_nodup h
 rw [← List.take_append_drop p (txFs ty), List.nodup_append] at h1
 obtain ⟨hlt, e⟩ := List.getElem?_eq_some_iff.1 hf
 refine h1.2.2 f hm f ?_ rfl
 rw [← e, List.drop_eq_getElem_cons hlt]
 exact List.mem_cons_self ..
end Go.Eng
namespace Go.Eng
open Go Go.Proofs
set_option linter.unusedVariables false
set_option maxRecDepth 10000
theorem blen_pos {n : Nat} (h : 1 ≤ n) : 1 ≤ blen n := by
 have := lt_pow_blen n
 rcases Nat.eq_zero_or_pos (blen n) with h0 | h0
 ·rw [h0] at this; omega
 ·exact h0
theorem numB_head {n : Nat} (h : 1 ≤ n) : ∃ b l, numB n = b :: l ∧ b ≠ 0 := by
 have h1 := strict_numB n
 cases hb : numB n with
 | nil =>
  have := congrArg List.length hb
  rw [numB, be_length, List.length_nil] at this
  have := blen_pos h
  omega
 | cons b l =>
  refine ⟨b, l, rfl, fun h0 => ?_⟩
  rw [hb, strictR, if_pos h0] at h1
  cases h1
def kindH (l : Bool) : Int := if l = true then 192 else 128
theorem cut_hd (l : Bool) (q r : List Int) (hq : q.length < 18446744073709551616) : cutR (hd (kindH l) q.length ++ (q ++ r)) = cutF l q.length (q ++ r) := by
 have cutcase : ∀ (c : Int) (m : Nat) (b : List Int), c = kindH l + m → m ≤ 63 → cutR (c :: b) = cutL l m b := fun c m b hc hm => by
  cases l with
  | true =>
   have hc : c = 192 + m := hc
   simp only [cutR]
   rw [if_neg (by omega), if_pos (by omega), show (c - 192).toNat = m by omega]
  | false =>
   have hc : c = 128 + m := hc
   simp only [cutR]
   rw [if_neg (by omega), if_neg (by omega), show (c - 128).toNat = m by omega]
 have hk : kindH l = 192 ∨ kindH l = 128 := by cases l; exact .inr rfl; exact .inl rfl
 unfold hd
 split
 ·rename_i h55
  have e : (kindH l + (q.length : Int)) % 256 = kindH l + (q.length : Nat) := by omega
  rw [e, List.singleton_append, cutcase _ q.length _ rfl (by omega), cutL, if_neg (by omega)]
 ·rename_i h55
  have h8 := bl_le64' hq
  have h1 := blen_pos (n := q.length) (by omega)
  have e : (kindH l + 55 + (blen q.length : Int)) % 256 = kindH l + ((55 + blen q.length : Nat) : Int) := by omega
  obtain ⟨b0, bt, hb0, hne⟩ := numB_head (n := q.length) (by omega)
  have hlen : (be q.length (blen q.length)).length = blen q.length := be_length _ _
  rw [e, List.cons_append, cutcase _ (55 + blen q.length) _ rfl (by omega), cutL, if_pos (by omega), show 55 + blen q.length - 55 = blen q.length by omega]
  have htk : (be q.length (blen q.length) ++ (q ++ r)).take (blen q.length) = be q.length (blen q.length) := by rw [List.take_left' hlen]
  have hdr : (be q.length (blen q.length) ++ (q ++ r)).drop (blen q.length) = q ++ r := by rw [List.drop_left' hlen]
  have hv : bev (be q.length (blen q.length)) = q.length := bev_numB _
  have hg : (be q.length (blen q.length) ++ (q ++ r)).getD 0 0 = b0 := by
   rw [show be q.length (blen q.length) = b0 :: bt from hb0]; rfl
  rw [htk, hdr, hv, hg, if_neg (by rw [List.length_append, hlen]; omega), if_neg (by omega), if_neg (by rw [List.length_append]; omega)]
theorem cutF_app {l : Bool} {q r : List Int} (h : l = false → q.length ≠ 1 ∨ 128 ≤ q.getD 0 0) : cutF l q.length (q ++ r) = (l, q, r, 0) := by
 unfold cutF
 rw [if_neg (by rw [List.length_append]; omega), if_neg, List.take_left' rfl, List.drop_left' rfl]
 rintro ⟨hl, h1, h2⟩
 rcases h hl with h3 | h3
 ·exact h3 h1
 ·obtain ⟨b, hb⟩ : ∃ b, q = [b] := by
   match q, h1 with
   | [b], _ => exact ⟨b, rfl⟩
  rw [hb] at h2 h3
  have h2 : b < 128 := h2
  have h3 : 128 ≤ b := h3
  omega
theorem cut_encT (q r : List Int) (hq : q.length < 18446744073709551616) (hb : bytesOk q) : cutR (encT q ++ r) = (false, q, r, 0) := by
 unfold encT
 split
 ·rename_i h
  rw [List.append_assoc]
  exact (cut_hd false q r hq).trans (cutF_app fun _ => h)
 ·rename_i h
  obtain ⟨b, hb1⟩ : ∃ b, q = [b] := by
   match q, (show q.length = 1 by omega) with
   | [b], _ => exact ⟨b, rfl⟩
  subst hb1
  have h2 : b < 128 := by
   have : ¬ 128 ≤ ([b] : List Int).getD 0 0 := fun h' => h (.inr h')
   have h3 : ([b] : List Int).getD 0 0 = b := rfl
   omega
  simp only [List.singleton_append, cutR]
  rw [if_pos h2]
theorem cut_encL (q r : List Int) (hq : q.length < 18446744073709551616) : cutR (hd 192 q.length ++ (q ++ r)) = (true, q, r, 0) :=
 (cut_hd true q r hq).trans (cutF_app fun h => by cases h)
theorem cutF_back {l l' : Bool} {n : Nat} {b q r : List Int} (h : cutF l n b = (l', q, r, 0)) : l' = l ∧ b = q ++ r ∧ q.length = n ∧ ¬ (l = false ∧ n = 1 ∧ b.getD 0 0 < 128) := by
 unfold cutF at h
 split at h
 ·cases h
 ·split at h
  ·cases h
  ·rename_i h1 h2
   cases h
   exact ⟨rfl, (List.take_append_drop _ _).symm, by rw [List.length_take]; omega, h2⟩
theorem cutL_back {l l' : Bool} {n : Nat} {b q r : List Int} (hb : bytesOk b) (hn : n ≤ 63) (h : cutL l n b = (l', q, r, 0)) : l' = l ∧ (kindH l + n) :: b = hd (kindH l) q.length ++ (q ++ r) ∧ (l = false → q.length ≠ 1 ∨ 128 ≤ q.getD 0 0) := by
 have hk : kindH l = 192 ∨ kindH l = 128 := by cases l; exact .inr rfl; exact .inl rfl
 have hbig : q.length ≠ 1 ∨ (l = false → q.length ≠ 1 ∨ 128 ≤ q.getD 0 0) → (l = false → q.length ≠ 1 ∨ 128 ≤ q.getD 0 0) := fun h => h.elim (fun h _ => .inl h) id
 unfold cutL at h
 split at h
 ·rename_i h55
  split at h
  ·cases h
  ·rename_i h1
   split at h
   ·cases h
   ·rename_i h2
    split at h
    ·cases h
    ·rename_i h3
     obtain ⟨e1, e2, e3, e4⟩ := cutF_back h
     have h2' : b.getD 0 0 ≠ 0 ∧ 55 < bev (b.take (n - 55)) := by omega
     obtain ⟨b0, bt, hbb⟩ : ∃ b0 bt, b = b0 :: bt := by
      cases b with
      | nil => exact absurd rfl h2'.1
      | cons b0 bt => exact ⟨b0, bt, rfl⟩
     obtain ⟨m, hm⟩ : ∃ m, n - 55 = m + 1 := ⟨n - 56, by omega⟩
     have htk : b.take (n - 55) = b0 :: bt.take m := by rw [hbb, hm]; rfl
     have hne : b0 ≠ 0 := by have := h2'.1; rw [hbb] at this; exact this
     have hs : strictR (b.take (n - 55)) = (bev (b.take (n - 55)), 0) := by rw [htk, strictR, if_neg hne]
     have hback := strict_back (d := b.take (n - 55)) (fun x hx => hb x (List.mem_of_mem_take hx)) (by rw [hs])
     rw [hs] at hback
     have hlen := congrArg List.length hback
     rw [List.length_take, numB, be_length, Nat.min_eq_left (by omega)] at hlen
     refine ⟨e1, ?_, hbig (.inl (by omega))⟩
     rw [← e2, e3]
     unfold hd
     rw [if_neg (by omega), ← hlen, List.cons_append]
     have e5 : be (bev (b.take (n - 55))) (n - 55) = b.take (n - 55) := by
      conv => rhs; rw [hback, numB]
      rw [← hlen]
     rw [e5, List.take_append_drop]
     congr 1
     omega
 ·rename_i h55
  obtain ⟨e1, e2, e3, e4⟩ := cutF_back h
  refine ⟨e1, ?_, fun hl => ?_⟩
  ·rw [e2, e3]
   unfold hd
   rw [if_pos (by omega), List.singleton_append]
   congr 1
   omega
  ·rcases Nat.lt_or_ge 1 q.length with h1 | h1
   ·exact .inl (by omega)
   ·by_cases h0 : q.length = 1
    ·right
     obtain ⟨x, hx⟩ : ∃ x, q = [x] := by
      match q, h0 with
      | [x], _ => exact ⟨x, rfl⟩
     have : ¬ b.getD 0 0 < 128 := fun h => e4 ⟨hl, by omega, h⟩
     rw [e2, hx] at this
     rw [hx]
     have this : ¬ x < 128 := this
     show 128 ≤ x
     omega
    ·exact .inl h0
theorem cutR_back {d q r : List Int} {l : Bool} (hb : bytesOk d) (h : cutR d = (l, q, r, 0)) : (l = false ∧ d = encT q ++ r) ∨ (l = true ∧ d = hd 192 q.length ++ (q ++ r)) := by
 cases d with
 | nil => cases h
 | cons c b =>
  have hc := hb c (by simp)
  have hb' : bytesOk b := fun x hx => hb x (by simp [hx])
  simp only [cutR] at h
  split at h
  ·rename_i h1
   cases h
   refine .inl ⟨rfl, ?_⟩
   unfold encT
   rw [if_neg]
   ·rfl
   ·rintro (h2 | h2)
    ·exact h2 rfl
    ·have : (128 : Int) ≤ c := h2
     omega
  ·split at h
   ·rename_i h1 h2
    obtain ⟨e1, e2, e3⟩ := cutL_back hb' (by omega) h
    refine .inr ⟨e1, ?_⟩
    rw [← show kindH true = 192 from rfl, ← e2]
    congr 1
    show c = 192 + _
    omega
   ·rename_i h1 h2
    obtain ⟨e1, e2, e3⟩ := cutL_back hb' (by omega) h
    refine .inl ⟨e1, ?_⟩
    unfold encT
    rw [if_pos (e3 rfl), List.append_assoc, ← show kindH false = 128 from rfl, ← e2]
    congr 1
    show c = 128 + _
    omega
theorem encT_pos (q : List Int) : 1 ≤ (encT q).length ∧ q.length ≤ (encT q).length ∧ 1 + q.length ≤ 2 * (encT q).length := by
 unfold encT
 have hp : ∀ n, 1 ≤ (hd 128 n).length := fun n => by unfold hd; split <;> simp
 split
 ·have := hp q.length
  rw [List.length_append]; omega
 ·have : q.length = 1 := by omega
  omega
theorem hd_pos (f : Int) (n : Nat) : 1 ≤ (hd f n).length := by unfold hd; split <;> simp
structure Read (w : Nat) (p : List Int) (its : List It) : Prop where
 e : encs its = p
 s : strips its = its
 b : byts its
 o : okSs its = true
 d : depths its + w ≤ 1024
 n : bulks its ≤ 2 * p.length
theorem dec_read : ∀ (n w : Nat) (p : List Int) (its : List It), p.length ≤ n → bytesOk p → w ≤ 1024 → dec w p = .ok its → Read w p its := by
 intro n
 induction n with
 | zero =>
  intro w p its hn hb hw h
  have : p = [] := List.eq_nil_of_length_eq_zero (by omega)
  subst this
  cases h
  exact ⟨rfl, rfl, trivial, rfl, by simp only [depths]; omega, Nat.zero_le _⟩
 | succ n ih =>
  intro w p its hn hb hw h
  by_cases hp : p = []
  ·subst hp
   cases h
   exact ⟨rfl, rfl, trivial, rfl, by simp only [depths]; omega, Nat.zero_le _⟩
  rw [dec_cons w hp] at h
  obtain ⟨l, q, r, e, hc⟩ : ∃ l q r e, cutR p = (l, q, r, e) := ⟨_, _, _, _, rfl⟩
  rw [hc] at h
  simp only at h
  split at h
  ·rename_i he
   subst he
   have hlen := cutR_len (d := p) (by rw [hc])
   rw [hc] at hlen
   simp only at hlen
   have hsub := cutR_sub (P := fun x : Int => 0 ≤ x ∧ x < 256) hb
   rw [hc] at hsub
   have hqb : bytesOk q := hsub.1
   have hrb : bytesOk r := hsub.2
   rcases cutR_back hb hc with ⟨hl, hd'⟩ | ⟨hl, hd'⟩
   ·subst hl
    rw [if_neg (by decide)] at h
    split at h
    ·cases h
    ·rename_i xs hx
     cases h
     obtain ⟨h1, h2, h3, h4, h5, h6⟩ := ih w r xs (by omega) hrb hw hx
     have hpl : p.length = (encT q).length + r.length := by conv => lhs; rw [hd', List.length_append]
     have := encT_pos q
     refine ⟨?_, ?_, ⟨⟨hqb, trivial⟩, h3⟩, ?_, ?_, ?_⟩
     ·rw [encs, h1, hd']; rfl
     ·rw [strips, h2]; rfl
     ·rw [okSs, h4]; rfl
     ·simp only [depths, It.txt, dep]; omega
     ·simp only [bulks, It.txt, It.bulk]; omega
   ·subst hl
    rw [if_pos rfl] at h
    split at h
    ·cases h
    ·rename_i hw1
     split at h
     ·cases h
     ·rename_i its' hi
      split at h
      ·cases h
      ·rename_i xs hx
       cases h
       obtain ⟨h1, h2, h3, h4, h5, h6⟩ := ih w r xs (by omega) hrb hw hx
       have hq1 := hlen.2.2 rfl
       obtain ⟨g1, g2, g3, g4, g5, g6⟩ := ih (w + 1) q its' (by omega) hqb (by omega) hi
       have hpl : p.length = (hd 192 q.length).length + (q.length + r.length) := by conv => lhs; rw [hd', List.length_append, List.length_append]
       have := hd_pos 192 q.length
       refine ⟨?_, ?_, ⟨⟨fun _ h => (by cases h), g3⟩, h3⟩, ?_, ?_, ?_⟩
       ·rw [encs, h1, It.lst, enc, g1, hd', List.append_assoc]
       ·rw [strips, h2, strip_lst, g2]
       ·rw [okSs, h4, It.lst, okS, g4]; rfl
       ·simp only [depths, It.lst, dep]; omega
       ·simp only [bulks, It.lst, It.bulk, List.length_nil]; omega
  ·cases h
theorem decR_read {d : List Int} {it : It} (hb : bytesOk d) (h : decR d = .ok it) : Read 0 d [it] := by
 unfold decR at h
 split at h
 ·cases h
 ·unfold cItem at h
  obtain ⟨l, q, r, e, hc⟩ : ∃ l q r e, cutR d = (l, q, r, e) := ⟨_, _, _, _, rfl⟩
  rw [hc] at h
  simp only at h
  split at h
  ·rename_i he
   subst he
   have hne : d ≠ [] := fun e => by rw [e] at hc; cases hc
   refine dec_read d.length 0 d [it] (Nat.le_refl _) hb (by omega) ?_
   rw [dec_cons 0 hne, hc]
   simp only [if_true]
   split at h
   ·rename_i hl
    subst hl
    rw [if_pos rfl, if_neg (by omega)]
    rw [if_neg (by decide)] at h
    unfold cWithin at h
    split at h
    ·cases h
    ·rename_i its hi
     have hi : dec (0 + 1) q = .ok its := hi
     rw [hi]
     simp only [cEnd, List.nil_append] at h
     split at h
     ·rename_i hr
      cases h
      subst hr
      rfl
     ·cases h
   ·rename_i hl
    rw [if_neg hl]
    simp only [cEnd] at h
    split at h
    ·rename_i hr
     cases h
     subst hr
     rfl
    ·cases h
  ·cases h
theorem dec_back : ∀ (n w : Nat) (its : List It), bulks its ≤ n → strips its = its → byts its → okSs its = true → depths its + w ≤ 1024 → (encs its).length < 18446744073709551616 → dec w (encs its) = .ok its := by
 intro n
 induction n with
 | zero =>
  intro w its hn
  cases its with
  | nil => intros; rfl
  | cons x xs => have := bulk_pos x; simp only [bulks] at hn; omega
 | succ n ih =>
  intro w its hn hs hb ho hd' hl
  cases its with
  | nil => rfl
  | cons x xs =>
   obtain ⟨l, d, sd, its', ss⟩ := x
   simp only [bulks, It.bulk] at hn
   simp only [strips, List.cons.injEq, It.strip, It.mk.injEq] at hs
   obtain ⟨⟨_, _, hsd, hsi, hss⟩, hsx⟩ := hs
   obtain ⟨⟨hbd, hbi⟩, hbx⟩ := hb
   simp only [okSs, Bool.and_eq_true] at ho
   obtain ⟨hox, hoxs⟩ := ho
   simp only [depths] at hd'
   subst hsd; subst hss
   cases l with
   | false =>
    simp only [okS, decide_eq_true_eq] at hox
    have : its' = [] := List.eq_nil_of_length_eq_zero hox
    subst this
    have he : encs (It.mk false d [] [] [] :: xs) = encT d ++ encs xs := rfl
    rw [he] at hl ⊢
    rw [List.length_append] at hl
    have hdl := encT_pos d
    have hne : encT d ++ encs xs ≠ [] := fun e => by have := congrArg List.length e; rw [List.length_append, List.length_nil] at this; omega
    rw [dec_cons w hne, cut_encT d (encs xs) (by omega) hbd]
    simp only [if_true]
    rw [if_neg (by decide), ih w xs (by omega) hsx hbx hoxs (by omega) (by omega)]
    rfl
   | true =>
    simp only [okS, Bool.and_eq_true, decide_eq_true_eq] at hox
    have : d = [] := List.eq_nil_of_length_eq_zero hox.1
    subst this
    simp only [dep] at hd'
    have he : encs (It.mk true [] [] its' [] :: xs) = hd 192 (encs its').length ++ (encs its' ++ encs xs) := by rw [encs, enc, List.append_assoc]
    rw [he] at hl ⊢
    rw [List.length_append, List.length_append] at hl
    have := hd_pos 192 (encs its').length
    have hne : hd 192 (encs its').length ++ (encs its' ++ encs xs) ≠ [] := fun e => by have := congrArg List.length e; rw [List.length_append, List.length_nil] at this; omega
    rw [dec_cons w hne, cut_encL (encs its') (encs xs) (by omega)]
    simp only [if_true]
    rw [if_neg (by omega), ih (w + 1) its' (by omega) hsi hbi hox.2 (by omega) (by omega), ih w xs (by omega) hsx hbx hoxs (by omega) (by omega)]
    rfl
theorem decR_back {it : It} (hs : it.strip = it) (hb : it.byt) (ho : okS it = true) (hd' : dep it ≤ 1024) (hl : (enc it).length ≤ 16777216) : decR (enc it) = .ok it := by
 have hall := dec_back (bulks [it]) 0 [it] (Nat.le_refl _) (by rw [strips, hs]; rfl) ⟨hb, trivial⟩ (by rw [okSs, ho]; rfl) (by simp only [depths]; omega) (by simp only [encs, List.append_nil]; omega)
 simp only [encs, List.append_nil] at hall
 unfold decR
 rw [if_neg (by omega)]
 have hne : enc it ≠ [] := fun e => by rw [e, dec_nil] at hall; cases hall
 rw [dec_cons 0 hne] at hall
 unfold cItem
 split at hall
 ·rename_i he
  rw [if_pos he]
  split at hall
  ·rename_i hlist
   rw [if_pos hlist]
   rw [if_neg (by omega)] at hall
   rw [if_neg (show ¬ ([] : List Opn).length = 1024 by simp)]
   unfold cWithin
   split at hall
   ·cases hall
   ·rename_i its hi
    have hi : dec (([] : List Opn).length + 1) (cutR (enc it)).2.1 = .ok its := hi
    rw [hi]
    split at hall
    ·cases hall
    ·rename_i xs hx
     simp only [Except.ok.injEq, List.cons.injEq] at hall
     obtain ⟨h1, h2⟩ := hall
     subst h2
     have hr : (cutR (enc it)).2.2.1 = [] := by
      cases hr : (cutR (enc it)).2.2.1 with
      | nil => rfl
      | cons c b =>
       rw [hr] at hx
       rw [dec_cons 0 (by simp)] at hx
       split at hx
       ·split at hx
        ·split at hx
         ·cases hx
         ·split at hx
          ·cases hx
          ·split at hx <;> cases hx
        ·split at hx <;> cases hx
       ·cases hx
     simp only [cEnd, hr, if_true, List.nil_append, h1]
  ·rename_i hlist
   rw [if_neg hlist]
   split at hall
   ·cases hall
   ·rename_i xs hx
    simp only [Except.ok.injEq, List.cons.injEq] at hall
    obtain ⟨h1, h2⟩ := hall
    subst h2
    have hr : (cutR (enc it)).2.2.1 = [] := by
     cases hr : (cutR (enc it)).2.2.1 with
     | nil => rfl
     | cons c b =>
      rw [hr] at hx
      rw [dec_cons 0 (by simp)] at hx
      split at hx
      ·split at hx
       ·split at hx
        ·cases hx
        ·split at hx
         ·cases hx
         ·split at hx <;> cases hx
       ·split at hx <;> cases hx
      ·cases hx
    simp only [cEnd, hr, if_true, h1]
 ·cases hall
end Go.Eng
