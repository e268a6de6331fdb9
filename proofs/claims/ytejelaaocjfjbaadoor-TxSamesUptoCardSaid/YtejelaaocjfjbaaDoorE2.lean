/-
  Functions that compare two lists: of bytes, digests, authorizations. Condition: at most 2^40 elements.
-/
import Derived.Test.YtejelaaocjfjbaaDoorD0
namespace Go.Eng
open Go Go.Proofs
set_option maxRecDepth 100000
set_option maxHeartbeats 4000000
set_option linter.unusedVariables false
theorem sameBytes15_sound : Sound Tryd.prog 32 fun args k => ∃ (xs ys : List (Int)) (s t : List (List PS)) (b : Bool), args = [.s (.sl (xs.map b8') s), .s (.sl (ys.map b8') t)] ∧ xs.length ≤ 2 ^ 40 ∧ (∀ x ∈ xs, True) ∧ (∀ x ∈ ys, True) ∧ (b = true ↔ xs = ys) ∧ k [.s (.v (.bool b))] := by
  refine Sound.of_body tt_ok ent_ok Tryd.func32 rfl ?_
  rintro ar har Γ hΓ args k ⟨xs, ys, s, t, b, hargs, hl, hxo, hyo, hb, hk⟩
  obtain ⟨X, hX⟩ : ∃ X, X = xs.map b8' := ⟨_, rfl⟩
  obtain ⟨Y, hY⟩ : ∃ Y, Y = ys.map b8' := ⟨_, rfl⟩
  have hXl : ar.len X = (xs.length : Int) := by rw [lenIs har, hX, List.length_map]
  have hYl : ar.len Y = (ys.length : Int) := by rw [lenIs har, hY, List.length_map]
  have hno : xs ≠ ys → k [.s (.v (.bool false))] := fun h => by
    have : b = false := by
      cases b with
      | false => rfl
      | true => exact absurd (hb.1 rfl) h
    rw [this] at hk; exact hk
  have hyes : xs = ys → k [.s (.v (.bool true))] := fun h => by rw [hb.2 h] at hk; exact hk
  rw [← hX, ← hY] at hargs
  clear hk
  subst hargs
  conv => cbv
  refine ⟨fun h => ?_, fun h => ?_⟩
  · have g := cNe har (a := ar.len X) (b := ar.len Y) h
    have hk := hno (fun e => g (by rw [hXl, hYl, e]))
    conv => cbv
    exact hk
  · have g := cNne har (a := ar.len X) (b := ar.len Y) h
    have hll : xs.length = ys.length := by omega
    conv => cbv
    refine .inr ⟨{ q : Nat × Int // q.1 ≤ xs.length ∧ q.2 = q.1 ∧ xs.take q.1 = ys.take q.1 },
      fun q => ⟨mk 26 [(0, .s (.p (.sl X s))), (1, .s (.p (.sl Y t))), (5, pint q.1.2)], []⟩,
      fun q => xs.length - q.1.1, [], _, ⟨(0, 0), Nat.zero_le _, rfl, rfl⟩, rfl, ?_, ?_⟩
    · conv => cbv
      simp
    · rintro ⟨⟨p, pi⟩, hq⟩
      have hp : p ≤ xs.length := hq.1
      have hpi : pi = (p : Int) := hq.2.1
      have hsame : xs.take p = ys.take p := hq.2.2
      dsimp only
      conv => cbv
      refine ⟨fun h => ?_, fun h => ?_⟩
      · have g' := cLt har (b := ar.len X) h
        have hlt : p < xs.length := by omega
        obtain ⟨x, hx⟩ : ∃ x, xs[p]? = some x := ⟨_, List.getElem?_eq_getElem hlt⟩
        obtain ⟨y, hy⟩ : ∃ y, ys[p]? = some y := ⟨_, List.getElem?_eq_getElem (by omega)⟩
        skip
        have rx : X[pi.toNat]? = some [.c (.v (.int .u8 x))] := by rw [hX, hpi]; simp [hx, b8']
        have ry : Y[pi.toNat]? = some [.c (.v (.int .u8 y))] := by rw [hY, hpi]; simp [hy, b8']
        conv => cbv
        refine ⟨by rw [har]; kernel_rfl, ?_⟩
        refine ⟨_, by omega, rx, rfl, ?_⟩
        conv => cbv
        refine ⟨_, by omega, ry, rfl, ?_⟩
        conv => cbv
        refine ⟨fun h2 => ?_, fun h2 => ?_⟩
        · have hxy : x ≠ y := cNe har h2
          have hk := hno (fun e => hxy (by rw [e] at hx; rw [hx] at hy; exact Option.some.inj hy))
          conv => cbv
          exact hk
        · have hxy : x = y := cNne har h2
          have hs2 : xs.take (p + 1) = ys.take (p + 1) := by rw [List.take_add_one, List.take_add_one, hx, hy, hsame, hxy]
          conv => cbv
          refine ⟨⟨(p + 1, ar.ib .add .i64 pi 1), hlt, iSucc har hpi (by omega), hs2⟩, ?_, ?_⟩
          · dsimp only
            conv => cbv
            simp
          · show xs.length - (p + 1) < xs.length - p
            omega
      · have g' := cNlt har (b := ar.len X) h
        have hpe : p = xs.length := by omega
        have hk := hyes (by rw [hpe, List.take_length, hll, List.take_length] at hsame; exact hsame)
        conv => cbv
        exact hk

theorem sameHashes15_sound : Sound Tryd.prog 33 fun args k => ∃ (xs ys : List (List Int)) (s t : List (List PS)) (b : Bool), args = [.s (.sl (xs.map key) s), .s (.sl (ys.map key) t)] ∧ xs.length ≤ 2 ^ 40 ∧ (∀ x ∈ xs, True) ∧ (∀ x ∈ ys, True) ∧ (b = true ↔ xs = ys) ∧ k [.s (.v (.bool b))] := by
  refine Sound.of_body tt_ok ent_ok Tryd.func33 rfl ?_
  rintro ar har Γ hΓ args k ⟨xs, ys, s, t, b, hargs, hl, hxo, hyo, hb, hk⟩
  obtain ⟨X, hX⟩ : ∃ X, X = xs.map key := ⟨_, rfl⟩
  obtain ⟨Y, hY⟩ : ∃ Y, Y = ys.map key := ⟨_, rfl⟩
  have hXl : ar.len X = (xs.length : Int) := by rw [lenIs har, hX, List.length_map]
  have hYl : ar.len Y = (ys.length : Int) := by rw [lenIs har, hY, List.length_map]
  have hno : xs ≠ ys → k [.s (.v (.bool false))] := fun h => by
    have : b = false := by
      cases b with
      | false => rfl
      | true => exact absurd (hb.1 rfl) h
    rw [this] at hk; exact hk
  have hyes : xs = ys → k [.s (.v (.bool true))] := fun h => by rw [hb.2 h] at hk; exact hk
  rw [← hX, ← hY] at hargs
  clear hk
  subst hargs
  conv => cbv
  refine ⟨fun h => ?_, fun h => ?_⟩
  · have g := cNe har (a := ar.len X) (b := ar.len Y) h
    have hk := hno (fun e => g (by rw [hXl, hYl, e]))
    conv => cbv
    exact hk
  · have g := cNne har (a := ar.len X) (b := ar.len Y) h
    have hll : xs.length = ys.length := by omega
    conv => cbv
    refine .inr ⟨{ q : Nat × Int // q.1 ≤ xs.length ∧ q.2 = q.1 ∧ xs.take q.1 = ys.take q.1 },
      fun q => ⟨mk 26 [(0, .s (.p (.sl X s))), (1, .s (.p (.sl Y t))), (5, pint q.1.2)], []⟩,
      fun q => xs.length - q.1.1, [], _, ⟨(0, 0), Nat.zero_le _, rfl, rfl⟩, rfl, ?_, ?_⟩
    · conv => cbv
      simp
    · rintro ⟨⟨p, pi⟩, hq⟩
      have hp : p ≤ xs.length := hq.1
      have hpi : pi = (p : Int) := hq.2.1
      have hsame : xs.take p = ys.take p := hq.2.2
      dsimp only
      conv => cbv
      refine ⟨fun h => ?_, fun h => ?_⟩
      · have g' := cLt har (b := ar.len X) h
        have hlt : p < xs.length := by omega
        obtain ⟨x, hx⟩ : ∃ x, xs[p]? = some x := ⟨_, List.getElem?_eq_getElem hlt⟩
        obtain ⟨y, hy⟩ : ∃ y, ys[p]? = some y := ⟨_, List.getElem?_eq_getElem (by omega)⟩
        obtain ⟨xv, hxv⟩ : ∃ xv, xv = u8s x := ⟨_, rfl⟩
        obtain ⟨yv, hyv⟩ : ∃ yv, yv = u8s y := ⟨_, rfl⟩
        have rx : X[pi.toNat]? = some [.r 32 xv] := by rw [hX, hpi]; simp [hx, key, hxv]
        have ry : Y[pi.toNat]? = some [.r 32 yv] := by rw [hY, hpi]; simp [hy, key, hyv]
        conv => cbv
        refine ⟨by rw [har]; kernel_rfl, ?_⟩
        refine ⟨_, by omega, rx, rfl, ?_⟩
        conv => cbv
        refine ⟨_, by omega, ry, rfl, ?_⟩
        conv => cbv
        refine ⟨fun _ => ⟨by rw [hxv]; exact ints_u8s x, by rw [hyv]; exact ints_u8s y⟩, fun h2 => ?_, fun h2 => ?_⟩
        · have hxy : x ≠ y := by
            have h3 : ar.eqv xv yv = false := nbT har h2
            rw [eqvIs har, hxv, hyv, eqVals_u8s] at h3; simpa using h3
          have hk := hno (fun e => hxy (by rw [e] at hx; rw [hx] at hy; exact Option.some.inj hy))
          conv => cbv
          exact hk
        · have hxy : x = y := by
            have h3 : ar.eqv xv yv = true := nbF har h2
            rw [eqvIs har, hxv, hyv, eqVals_u8s] at h3; simpa using h3
          have hs2 : xs.take (p + 1) = ys.take (p + 1) := by rw [List.take_add_one, List.take_add_one, hx, hy, hsame, hxy]
          conv => cbv
          refine ⟨⟨(p + 1, ar.ib .add .i64 pi 1), hlt, iSucc har hpi (by omega), hs2⟩, ?_, ?_⟩
          · dsimp only
            conv => cbv
            simp
          · show xs.length - (p + 1) < xs.length - p
            omega
      · have g' := cNlt har (b := ar.len X) h
        have hpe : p = xs.length := by omega
        have hk := hyes (by rw [hpe, List.take_length, hll, List.take_length] at hsame; exact hsame)
        conv => cbv
        exact hk

theorem playSame_sound : Sound Tryd.prog 84 fun args k => ∃ (xs ys : List (Int)) (s t : List (List PS)) (b : Bool), args = [.s (.sl (xs.map b8') s), .s (.sl (ys.map b8') t)] ∧ xs.length ≤ 2 ^ 40 ∧ (∀ x ∈ xs, True) ∧ (∀ x ∈ ys, True) ∧ (b = true ↔ xs = ys) ∧ k [.s (.v (.bool b))] := by
  refine Sound.of_body tt_ok ent_ok Tryd.func84 rfl ?_
  rintro ar har Γ hΓ args k ⟨xs, ys, s, t, b, hargs, hl, hxo, hyo, hb, hk⟩
  obtain ⟨X, hX⟩ : ∃ X, X = xs.map b8' := ⟨_, rfl⟩
  obtain ⟨Y, hY⟩ : ∃ Y, Y = ys.map b8' := ⟨_, rfl⟩
  have hXl : ar.len X = (xs.length : Int) := by rw [lenIs har, hX, List.length_map]
  have hYl : ar.len Y = (ys.length : Int) := by rw [lenIs har, hY, List.length_map]
  have hno : xs ≠ ys → k [.s (.v (.bool false))] := fun h => by
    have : b = false := by
      cases b with
      | false => rfl
      | true => exact absurd (hb.1 rfl) h
    rw [this] at hk; exact hk
  have hyes : xs = ys → k [.s (.v (.bool true))] := fun h => by rw [hb.2 h] at hk; exact hk
  rw [← hX, ← hY] at hargs
  clear hk
  subst hargs
  conv => cbv
  refine ⟨fun h => ?_, fun h => ?_⟩
  · have g := cNe har (a := ar.len X) (b := ar.len Y) h
    have hk := hno (fun e => g (by rw [hXl, hYl, e]))
    conv => cbv
    exact hk
  · have g := cNne har (a := ar.len X) (b := ar.len Y) h
    have hll : xs.length = ys.length := by omega
    conv => cbv
    refine .inr ⟨{ q : Nat × Int // q.1 ≤ xs.length ∧ q.2 = q.1 ∧ xs.take q.1 = ys.take q.1 },
      fun q => ⟨mk 26 [(0, .s (.p (.sl X s))), (1, .s (.p (.sl Y t))), (5, pint q.1.2)], []⟩,
      fun q => xs.length - q.1.1, [], _, ⟨(0, 0), Nat.zero_le _, rfl, rfl⟩, rfl, ?_, ?_⟩
    · conv => cbv
      simp
    · rintro ⟨⟨p, pi⟩, hq⟩
      have hp : p ≤ xs.length := hq.1
      have hpi : pi = (p : Int) := hq.2.1
      have hsame : xs.take p = ys.take p := hq.2.2
      dsimp only
      conv => cbv
      refine ⟨fun h => ?_, fun h => ?_⟩
      · have g' := cLt har (b := ar.len X) h
        have hlt : p < xs.length := by omega
        obtain ⟨x, hx⟩ : ∃ x, xs[p]? = some x := ⟨_, List.getElem?_eq_getElem hlt⟩
        obtain ⟨y, hy⟩ : ∃ y, ys[p]? = some y := ⟨_, List.getElem?_eq_getElem (by omega)⟩
        skip
        have rx : X[pi.toNat]? = some [.c (.v (.int .u8 x))] := by rw [hX, hpi]; simp [hx, b8']
        have ry : Y[pi.toNat]? = some [.c (.v (.int .u8 y))] := by rw [hY, hpi]; simp [hy, b8']
        conv => cbv
        refine ⟨by rw [har]; kernel_rfl, ?_⟩
        refine ⟨_, by omega, rx, rfl, ?_⟩
        conv => cbv
        refine ⟨_, by omega, ry, rfl, ?_⟩
        conv => cbv
        refine ⟨fun h2 => ?_, fun h2 => ?_⟩
        · have hxy : x ≠ y := cNe har h2
          have hk := hno (fun e => hxy (by rw [e] at hx; rw [hx] at hy; exact Option.some.inj hy))
          conv => cbv
          exact hk
        · have hxy : x = y := cNne har h2
          have hs2 : xs.take (p + 1) = ys.take (p + 1) := by rw [List.take_add_one, List.take_add_one, hx, hy, hsame, hxy]
          conv => cbv
          refine ⟨⟨(p + 1, ar.ib .add .i64 pi 1), hlt, iSucc har hpi (by omega), hs2⟩, ?_, ?_⟩
          · dsimp only
            conv => cbv
            simp
          · show xs.length - (p + 1) < xs.length - p
            omega
      · have g' := cNlt har (b := ar.len X) h
        have hpe : p = xs.length := by omega
        have hk := hyes (by rw [hpe, List.take_length, hll, List.take_length] at hsame; exact hsame)
        conv => cbv
        exact hk

end Go.Eng
