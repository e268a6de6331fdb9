/-
  Functions that compare two lists: of bytes, digests, authorizations. Condition: at most 2^40 elements.
-/
import Derived.Test.YtejelaaocjfjbaaDoorD0
namespace Go.Eng
open Go Go.Proofs
set_option maxRecDepth 100000
set_option maxHeartbeats 4000000
set_option linter.unusedVariables false
theorem slEqU_sound : Sound Tryd.prog 29 fun args k => ∃ (xs ys : List (Au)) (s t : List (List PS)) (b : Bool), args = [.s (.sl (xs.map Au.row) s), .s (.sl (ys.map Au.row) t)] ∧ xs.length ≤ 2 ^ 40 ∧ (∀ x ∈ xs, (x.ok ∧ bytesOk x.a)) ∧ (∀ x ∈ ys, (x.ok ∧ bytesOk x.a)) ∧ (b = true ↔ xs = ys) ∧ k [.s (.v (.bool b))] := by
  refine Sound.of_body tt_ok ent_ok Tryd.func29 rfl ?_
  rintro ar har Γ hΓ args k ⟨xs, ys, s, t, b, hargs, hl, hxo, hyo, hb, hk⟩
  obtain ⟨X, hX⟩ : ∃ X, X = xs.map Au.row := ⟨_, rfl⟩
  obtain ⟨Y, hY⟩ : ∃ Y, Y = ys.map Au.row := ⟨_, rfl⟩
  have hXl : ar.len X = (xs.length : Int) := by rw [lenIs har, hX, List.length_map]
  have hYl : ar.len Y = (ys.length : Int) := by rw [lenIs har, hY, List.length_map]
  have hno : xs ≠ ys → k [.s (.v (.bool false))] := fun h => by
    have : b = false := by
      cases b with
      | false => rfl
      | true => exact absurd (hb.1 rfl) h
    rw [this] at hk; exact hk
  have hyes : xs = ys → k [.s (.v (.bool true))] := fun h => by rw [hb.2 h] at hk; exact hk
  rw [← hX, ← hY] at hargs
  clear hk
  subst hargs
  conv => cbv
  refine ⟨fun h => ?_, fun h => ?_⟩
  · have g := cNe har (a := ar.len X) (b := ar.len Y) h
    have hk := hno (fun e => g (by rw [hXl, hYl, e]))
    conv => cbv
    exact hk
  · have g := cNne har (a := ar.len X) (b := ar.len Y) h
    have hll : xs.length = ys.length := by omega
    conv => cbv
    refine .inr ⟨{ q : Nat × Int // q.1 ≤ xs.length ∧ q.2 = q.1 ∧ xs.take q.1 = ys.take q.1 },
      fun q => ⟨mk 26 [(0, .s (.p (.sl X s))), (1, .s (.p (.sl Y t))), (12, pint (ar.len X)), (13, pint q.1.2)], []⟩,
      fun q => xs.length - q.1.1, [], _, ⟨(0, 0), Nat.zero_le _, rfl, rfl⟩, rfl, ?_, ?_⟩
    · conv => cbv
      simp
    · rintro ⟨⟨p, pi⟩, hq⟩
      have hp : p ≤ xs.length := hq.1
      have hpi : pi = (p : Int) := hq.2.1
      have hsame : xs.take p = ys.take p := hq.2.2
      dsimp only
      conv => cbv
      refine ⟨fun h => ?_, fun h => ?_⟩
      · have g' := cLt har (b := ar.len X) h
        have hlt : p < xs.length := by omega
        obtain ⟨x, hx⟩ : ∃ x, xs[p]? = some x := ⟨_, List.getElem?_eq_getElem hlt⟩
        obtain ⟨y, hy⟩ : ∃ y, ys[p]? = some y := ⟨_, List.getElem?_eq_getElem (by omega)⟩
        obtain ⟨lx0, lx1, lx2, lx3, la0, la1, la2, la3, la4, la5, la6, la7, la8, la9, la10, la11, la12, la13, la14, la15, la16, la17, la18, la19, lc3, lc4, ly0, ly1, ly2, ly3, lz0, lz1, lz2, lz3, hrx, hox, hcx⟩ := au_cells2 x (hxo x (List.mem_of_getElem? hx)).1 (hxo x (List.mem_of_getElem? hx)).2
        obtain ⟨rx0, rx1, rx2, rx3, ra0, ra1, ra2, ra3, ra4, ra5, ra6, ra7, ra8, ra9, ra10, ra11, ra12, ra13, ra14, ra15, ra16, ra17, ra18, ra19, rc3, rc4, ry0, ry1, ry2, ry3, rz0, rz1, rz2, rz3, hry, hoy, hcy⟩ := au_cells2 y (hyo y (List.mem_of_getElem? hy)).1 (hyo y (List.mem_of_getElem? hy)).2
        obtain ⟨c, hc⟩ : ∃ c, eqVals x.cells y.cells = c := ⟨_, rfl⟩
        have hce := eqVals_cells (hxo x (List.mem_of_getElem? hx)).1 (hyo y (List.mem_of_getElem? hy)).1
        rw [hc] at hce
        rw [← hcx, ← hcy] at hc
        have rx : X[pi.toNat]? = some [.r 4 [.int .u64 lx0, .int .u64 lx1, .int .u64 lx2, .int .u64 lx3], .r 20 [.int .u8 la0, .int .u8 la1, .int .u8 la2, .int .u8 la3, .int .u8 la4, .int .u8 la5, .int .u8 la6, .int .u8 la7, .int .u8 la8, .int .u8 la9, .int .u8 la10, .int .u8 la11, .int .u8 la12, .int .u8 la13, .int .u8 la14, .int .u8 la15, .int .u8 la16, .int .u8 la17, .int .u8 la18, .int .u8 la19], .c (.v (.int .u64 lc3)), .c (.v (.int .u64 lc4)), .r 4 [.int .u64 ly0, .int .u64 ly1, .int .u64 ly2, .int .u64 ly3], .r 4 [.int .u64 lz0, .int .u64 lz1, .int .u64 lz2, .int .u64 lz3]] := by rw [hX, hpi]; rw [← hrx]; simp [hx]
        have ry : Y[pi.toNat]? = some [.r 4 [.int .u64 rx0, .int .u64 rx1, .int .u64 rx2, .int .u64 rx3], .r 20 [.int .u8 ra0, .int .u8 ra1, .int .u8 ra2, .int .u8 ra3, .int .u8 ra4, .int .u8 ra5, .int .u8 ra6, .int .u8 ra7, .int .u8 ra8, .int .u8 ra9, .int .u8 ra10, .int .u8 ra11, .int .u8 ra12, .int .u8 ra13, .int .u8 ra14, .int .u8 ra15, .int .u8 ra16, .int .u8 ra17, .int .u8 ra18, .int .u8 ra19], .c (.v (.int .u64 rc3)), .c (.v (.int .u64 rc4)), .r 4 [.int .u64 ry0, .int .u64 ry1, .int .u64 ry2, .int .u64 ry3], .r 4 [.int .u64 rz0, .int .u64 rz1, .int .u64 rz2, .int .u64 rz3]] := by rw [hY, hpi]; rw [← hry]; simp [hy]
        conv => cbv
        refine ⟨by rw [har]; kernel_rfl, ?_⟩
        refine ⟨_, by omega, rx, rfl, ?_⟩
        conv => cbv
        refine ⟨_, by omega, ry, rfl, ?_⟩
        conv => cbv
        refine ⟨c, fun _ => ⟨hox, hoy, hc⟩, ?_⟩
        conv => cbv
        refine ⟨fun h2 => ?_, fun h2 => ?_⟩
        · have hxy : x ≠ y := fun e => by
            have h3 := nbT har h2
            rw [hce.2 e] at h3; cases h3
          have hk := hno (fun e => hxy (by rw [e] at hx; rw [hx] at hy; exact Option.some.inj hy))
          conv => cbv
          exact hk
        · have hxy : x = y := hce.1 (nbF har h2)
          have hs2 : xs.take (p + 1) = ys.take (p + 1) := by rw [List.take_add_one, List.take_add_one, hx, hy, hsame, hxy]
          conv => cbv
          refine ⟨⟨(p + 1, ar.ib .add .i64 pi 1), hlt, iSucc har hpi (by omega), hs2⟩, ?_, ?_⟩
          · dsimp only
            conv => cbv
            simp
          · show xs.length - (p + 1) < xs.length - p
            omega
      · have g' := cNlt har (b := ar.len X) h
        have hpe : p = xs.length := by omega
        have hk := hyes (by rw [hpe, List.take_length, hll, List.take_length] at hsame; exact hsame)
        conv => cbv
        exact hk

end Go.Eng
