/-
  waybillref14.Item; waybilllaw14.turned. Conditions: sizes.
  waybilllaw14.turned. Conditions: sizes.
  waybilllaw14.twin answers new memory. Condition: at most 2^40 entries, of at most 2^40 keys each.
  still is true of a twin that nobody has written to, whatever list stands with the mark. Condition: as for twin.
-/
import Derived.Test.YtgihmigiecfmaaaPA
import Derived.Test.YtgihmigiecfmaaaRC
import Derived.Test.YtgihmigiecfmaaaUA
import Derived.Test.YtgihmigiecfmaaaQA
namespace Go.Eng
open Go Go.Proofs
set_option maxRecDepth 100000
set_option maxHeartbeats 16000000
set_option linter.unusedVariables false

theorem refItem_sound : Sound Try.prog 8 fun args k => ∃ (es : List Ent) (s : List (List PS)), args = [.s (.sl (es.map Ent.row) s)] ∧ (∀ e ∈ es, e.a.length = 20 ∧ ∀ w ∈ e.ks, w.length = 32) ∧ bulks (esIts es) < 2 ^ 40 ∧
    k [.a (if errOf (It.lst (esIts es)) = 0 then It.lst (esIts es) else .zero).row, .s (.v (.int .i64 (if errOf (It.lst (esIts es)) = 0 then 0 else 2)))] := by
  refine Sound.of_body tt_ok ent_ok Try.func8 rfl ?_
  rintro ar har Γ hΓ args k ⟨es, s, hargs, hlen, hb, hk⟩
  obtain ⟨X, hX⟩ : ∃ X, X = es.map Ent.row := ⟨_, rfl⟩
  have hXl : ar.len X = (es.length : Int) := by rw [lenIs har, hX, List.length_map]
  have callX : ∀ (W s : List (List PS)) (w : List Int) (C : List (List PS)) (Γ : Ctx) (d' : Nat) (k : List PR → Prop) (R : Prop), Γ = ctx Try.prog d' → C = W → W = w.map b8 → w.length ≤ 2 ^ 40 → k [.a (rtx W)] → Γ.g 28 [.s (.sl C s)] k ∨ R := fun W s w C Γ d' k R hΓ hc hw hl hk => call_by hΓ textOf_sound ⟨w, s, by rw [hc, hw], hl, by rw [hw] at hk; exact hk⟩
  have callX' : ∀ (W s : List (List PS)) (w : List Int) (C : List (List PS)) (Γ : Ctx) (d' : Nat) (k : List PR → Prop), Γ = ctx Try.prog d' → C = W → W = w.map b8 → w.length ≤ 2 ^ 40 → k [.a (rtx W)] → Γ.g 28 [.s (.sl C s)] k := fun W s w C Γ d' k hΓ hc hw hl hk => call_by' hΓ textOf_sound ⟨w, s, by rw [hc, hw], hl, by rw [hw] at hk; exact hk⟩
  have hel : es.length ≤ bulks (esIts es) := by
    have h1 := bulks_len (esIts es)
    have h2 : (esIts es).length = es.length := List.length_map ..
    omega
  rw [← hX] at hargs
  subst hargs
  conv => cbv
  refine .inr ⟨{ q : Nat × Int × List (List PS) // q.1 ≤ es.length ∧ q.2.1 = q.1 ∧ q.2.2 = rowsOf (esIts (es.take q.1)) },
    fun q => ⟨mk 69 [(0, .s (.p (.sl X s))), (2, .s (.ptr 0 0)), (4, .s (.ptr 1 0)), (5, pint q.1.2.1)], [.box [.c (.bl false), .c .nil, .c .nil], .box [.c (.bl true), .c .nil, .c (.own 2)], .arr q.1.2.2 27 3 56 true]⟩,
    fun q => es.length - q.1.1, [.cell 1 2 27], _, ⟨(0, 0, []), Nat.zero_le _, rfl, rfl⟩, rfl, ?_, ?_⟩
  · conv => cbv
    simp
  · rintro ⟨⟨p, pi, Z⟩, hq⟩
    have hp : p ≤ es.length := hq.1
    have hpi : pi = (p : Int) := hq.2.1
    have hZ : Z = rowsOf (esIts (es.take p)) := hq.2.2
    dsimp only
    conv => cbv
    refine ⟨fun h => ?_, fun h => ?_⟩
    · have g := cLt har (b := ar.len X) h
      have hlt : p < es.length := by omega
      obtain ⟨e, hx⟩ : ∃ e, es[p]? = some e := ⟨_, List.getElem?_eq_getElem hlt⟩
      obtain ⟨ea, ek, es1⟩ := e
      obtain ⟨xv, hxv⟩ : ∃ xv, xv = u8s ea := ⟨_, rfl⟩
      obtain ⟨xl, hxl⟩ : ∃ xl, xl = ek.map key := ⟨_, rfl⟩
      have rx : X[pi.toNat]? = some [.r 20 xv, .c (.sl xl es1)] := by rw [hX, hpi]; simp [hx, Ent.row, hxv, hxl]
      have hE := hlen _ (List.mem_of_getElem? hx)
      have hE1 : ea.length = 20 := hE.1
      have hE2 : ∀ w ∈ ek, w.length = 32 := hE.2
      have hEb : (entIt ea ek).bulk ≤ bulks (esIts es) := bulk_get (its := esIts es) (p := p) (by simp only [esIts, List.getElem?_map, hx]; rfl)
      rw [ent_bulk] at hEb
      have hkb : ek.length ≤ ksB ek := by have := bulks_len (ksIts ek); rw [ksIts, List.length_map] at this; exact this
      have hxll : ar.len xl = (ek.length : Int) := by rw [lenIs har, hxl, List.length_map]
      conv => cbv
      refine .inr ⟨{ q : Nat × Int × List (List PS) // q.1 ≤ ek.length ∧ q.2.1 = q.1 ∧ q.2.2 = rowsOf (ksIts (ek.take q.1)) },
        fun q => ⟨mk 69 [(0, .s (.p (.sl X s))), (2, .s (.ptr 0 0)), (4, .s (.ptr 1 0)), (5, pint pi), (6, .s (.ptr 3 0)), (7, pint q.1.2.1)], [.box [.c (.bl false), .c .nil, .c .nil], .box [.c (.bl true), .c .nil, .c (.own 2)], .arr Z 27 3 56 true, .box [.c (.bl true), .c .nil, .c (.own 4)], .arr q.1.2.2 27 3 56 true]⟩,
        fun q => ek.length - q.1.1, [.cell 3 2 27], _, ⟨(0, 0, []), Nat.zero_le _, rfl, rfl⟩, rfl, ?_, ?_⟩
      · conv => cbv
        simp
      · rintro ⟨⟨r, ri, Y⟩, hr⟩
        have hrp : r ≤ ek.length := hr.1
        have hri : ri = (r : Int) := hr.2.1
        have hY : Y = rowsOf (ksIts (ek.take r)) := hr.2.2
        dsimp only
        conv => cbv
        refine ⟨_, by omega, rx, rfl, ?_⟩
        conv => cbv
        refine ⟨fun h => ?_, fun h => ?_⟩
        · have g' := cLt har (b := ar.len xl) h
          have hrl : r < ek.length := by omega
          obtain ⟨w, hw⟩ : ∃ w, ek[r]? = some w := ⟨_, List.getElem?_eq_getElem hrl⟩
          have hw32 : w.length = 32 := hE2 w (List.mem_of_getElem? hw)
          obtain ⟨wv, hwv⟩ : ∃ wv, wv = u8s w := ⟨_, rfl⟩
          obtain ⟨W, hW⟩ : ∃ W, W = w.map b8 := ⟨_, rfl⟩
          have hcw : ar.cells wv = W := by rw [hwv, hW, bytes_cells ar har]
          have rw1 : xl[ri.toNat]? = some [.r 32 wv] := by rw [hxl, hri]; simp [hw, key, hwv]
          have s1 : (Y.length + 1) * 56 ≤ 140737488355328 ∧ ∀ y ∈ [rtx W], rlen y = 3 := ⟨by rw [hY, rowsOf_length, ksIts, List.length_map, List.length_take]; omega, by simp [rtx, rlen, PS.len]⟩
          have hY2 : ar.app Y [rtx W] = rowsOf (ksIts (ek.take (r + 1))) := by
            rw [appIs har, hY, take_succ_get hw, ksIts, ksIts, List.map_append, rowsOf_append, hW]; rfl
          conv => cbv
          refine ⟨_, by omega, rx, rfl, ?_⟩
          conv => cbv
          refine ⟨_, by omega, rw1, rfl, ?_⟩
          conv => cbv
          refine ⟨by rw [har]; kernel_rfl, ?_⟩
          refine callX' W [] w _ _ _ _ hΓ hcw hW (by omega) ?_
          conv => cbv
          refine ⟨fun _ => s1, ?_⟩
          refine ⟨⟨(r + 1, ar.ib .add .i64 ri 1, ar.app Y [rtx W]), hrl, iSucc har hri (by omega), hY2⟩, ?_, ?_⟩
          · dsimp only
            conv => cbv
            simp
          · show ek.length - (r + 1) < ek.length - r
            omega
        · have g' := cNlt har (b := ar.len xl) h
          have hre : r = ek.length := by omega
          rw [hre, List.take_length] at hY
          obtain ⟨V, hV⟩ : ∃ W, W = ea.map b8 := ⟨_, rfl⟩
          have hcv : ar.cells xv = V := by rw [hxv, hV, bytes_cells ar har]
          have s1 : (Z.length + 1) * 56 ≤ 140737488355328 ∧ ∀ y ∈ [rls [rtx V, rls Y]], rlen y = 3 := ⟨by
            rw [hZ, rowsOf_length, esIts, List.length_map, List.length_take]
            omega, by simp [rls, rlen, PS.len]⟩
          have hZ2 : ar.app Z [rls [rtx V, rls Y]] = rowsOf (esIts (es.take (p + 1))) := by
            rw [appIs har, hZ, take_succ_get hx, esIts, esIts, List.map_append, rowsOf_append, hV, hY]; rfl
          conv => cbv
          refine ⟨_, by omega, rx, rfl, ?_⟩
          conv => cbv
          refine ⟨Bool, fun b => match b with
            | false => ⟨mk 69 [(0, .s (.p (.sl X s))), (2, .s (.ptr 0 0)), (4, .s (.ptr 1 0)), (5, pint pi), (10, .s (.ptr 6 0))], [.box [.c (.bl false), .c .nil, .c .nil], .box [.c (.bl true), .c .nil, .c (.own 2)], .arr Z 27 3 56 true, .gone, .gone, .gone, .box [.c (.bl true), .c .nil, .c (.own 7)], .arr [rtx V, rls Y] 27 3 56 true]⟩
            | true => ⟨mk 69 [(0, .s (.p (.sl X s))), (2, .s (.ptr 0 0)), (4, .s (.ptr 1 0)), (5, pint pi), (10, .s (.ptr 7 0))], [.box [.c (.bl false), .c .nil, .c .nil], .box [.c (.bl true), .c .nil, .c (.own 2)], .arr Z 27 3 56 true, .gone, .gone, .gone, .arr [rtx V, rls Y] 27 3 56 true, .box [.c (.bl true), .c .nil, .c (.own 6)]]⟩, ?_, fun b => ?_⟩
          · conv => cbv
            repeat' first
              | (refine callX' V [] ea _ _ _ _ hΓ hcv hV (by omega) ?_; conv => cbv)
              | refine And.intro ?_ ?_
            all_goals first
              | (refine ⟨false, ?_⟩; (conv => cbv); simp; done)
              | (refine ⟨true, ?_⟩; (conv => cbv); simp; done)
          · cases b
            · conv => cbv
              refine ⟨fun _ => s1, ?_⟩
              refine ⟨⟨(p + 1, ar.ib .add .i64 pi 1, ar.app Z [rls [rtx V, rls Y]]), hlt, iSucc har hpi (by omega), hZ2⟩, ?_, ?_⟩
              · dsimp only
                conv => cbv
                simp
              · show es.length - (p + 1) < es.length - p
                omega
            · conv => cbv
              refine ⟨fun _ => s1, ?_⟩
              refine ⟨⟨(p + 1, ar.ib .add .i64 pi 1, ar.app Z [rls [rtx V, rls Y]]), hlt, iSucc har hpi (by omega), hZ2⟩, ?_, ?_⟩
              · dsimp only
                conv => cbv
                simp
              · show es.length - (p + 1) < es.length - p
                omega
    · have g := cNlt har (b := ar.len X) h
      have hpe : p = es.length := by omega
      rw [hpe, List.take_length] at hZ
      obtain ⟨F, hF⟩ : ∃ F, F = (if errOf (It.lst (esIts es)) = 0 then It.lst (esIts es) else .zero).row := ⟨_, rfl⟩
      obtain ⟨fe, hfe⟩ : ∃ fe : Int, fe = (if errOf (It.lst (esIts es)) = 0 then 0 else 2) := ⟨_, rfl⟩
      have callF : ∀ (Γ : Ctx) (d' : Nat) (k : List PR → Prop) (R : Prop), Γ = ctx Try.prog d' → k [.a F, .s (.v (.int .i64 fe))] → Γ.g 29 [.a [.c (.v (.bool true)), .c (.sl [] []), .c (.sl Z [])]] k ∨ R := fun Γ d' k R hΓ hk => call_by hΓ sized_sound ⟨It.lst (esIts es), by rw [hZ]; rfl, by simp only [It.lst, It.bulk, List.length_nil]; omega, by rw [hF, hfe] at hk; exact hk⟩
      rw [← hF, ← hfe] at hk
      obtain ⟨a, ⟨b1, b2⟩, ⟨c1, c2⟩, hA2⟩ := row3 (if errOf (It.lst (esIts es)) = 0 then It.lst (esIts es) else .zero)
      rw [← hF] at hA2
      subst hA2
      conv => cbv
      refine callF _ _ _ _ hΓ ?_
      conv => cbv
      exact hk
end Go.Eng
namespace Go.Eng
open Go Go.Proofs
set_option maxRecDepth 100000
set_option maxHeartbeats 16000000
set_option linter.unusedVariables false

theorem turned_sound : Sound Try.prog 12 fun args k => ∃ (es : List Ent) (s : List (List PS)), args = [.s (.sl (es.map Ent.row) s)] ∧ es.length ≤ 2 ^ 30 ∧ k [.s (.sl (es.reverse.map Ent.row) [])] := by
  refine Sound.of_body tt_ok ent_ok Try.func12 rfl ?_
  rintro ar har Γ hΓ args k ⟨es, s, hargs, hlen, hk⟩
  obtain ⟨X, hX⟩ : ∃ X, X = es.map Ent.row := ⟨_, rfl⟩
  have hXl : ar.len X = (es.length : Int) := by rw [lenIs har, hX, List.length_map]
  have hi0 : ar.ib .sub .i64 (ar.len X) 1 = (es.length : Int) - 1 - (0 : Nat) := by rw [iIs har, hXl]; simp only [intB]; rw [wrap_small (by omega)]; omega
  rw [← hX] at hargs
  subst hargs
  conv => cbv
  refine .inr ⟨{ q : Nat × Int × List (List PS) // q.1 ≤ es.length ∧ q.2.1 = (es.length : Int) - 1 - q.1 ∧ q.2.2 = (es.reverse.take q.1).map Ent.row },
    fun q => ⟨mk 20 [(0, .s (.p (.sl X s))), (3, .s (.own 0)), (4, pint q.1.2.1)], [.arr q.1.2.2 62 21 48 true]⟩,
    fun q => es.length - q.1.1, [.slot 3 62], _, ⟨(0, ar.ib .sub .i64 (ar.len X) 1, []), Nat.zero_le _, hi0, rfl⟩, rfl, ?_, ?_⟩
  · conv => cbv
    simp
  rintro ⟨⟨p, pi, Z⟩, hq⟩
  have hp : p ≤ es.length := hq.1
  have hpi : pi = (es.length : Int) - 1 - p := hq.2.1
  have hZ : Z = (es.reverse.take p).map Ent.row := hq.2.2
  dsimp only
  conv => cbv
  refine ⟨fun h => ?_, fun h => ?_⟩
  · have g := cGe har (b := 0) h
    have hlt : p < es.length := by omega
    obtain ⟨q, hq⟩ : ∃ q : Nat, q = es.length - 1 - p := ⟨_, rfl⟩
    have hpq : pi.toNat = q := by omega
    obtain ⟨e, hx⟩ : ∃ e, es[q]? = some e := ⟨_, List.getElem?_eq_getElem (by omega)⟩
    have hx2 : es.reverse[p]? = some e := by rw [List.getElem?_reverse (by omega), ← hq, hx]
    obtain ⟨ea, ek, es1⟩ := e
    obtain ⟨xv, hxv⟩ : ∃ xv, xv = u8s ea := ⟨_, rfl⟩
    obtain ⟨xl, hxl⟩ : ∃ xl, xl = ek.map key := ⟨_, rfl⟩
    have rx : X[pi.toNat]? = some [.r 20 xv, .c (.sl xl es1)] := by rw [hX, hpq]; simp [hx, Ent.row, hxv, hxl]
    have s1 : (Z.length + 1) * 48 ≤ 140737488355328 ∧ ∀ y ∈ [[PS.r 20 xv, .c (.sl xl es1)]], rlen y = 21 := ⟨by rw [hZ, List.length_map, List.length_take, List.length_reverse]; omega, by simp [rlen, PS.len]⟩
    have hi1 : ar.ib .sub .i64 pi 1 = (es.length : Int) - 1 - ((p + 1 : Nat) : Int) := by rw [iSub har (by omega)]; omega
    have hZ2 : ar.app Z [[PS.r 20 xv, .c (.sl xl es1)]] = (es.reverse.take (p + 1)).map Ent.row := by
      rw [appIs har, hZ, take_succ_get hx2, List.map_append, hxv, hxl]; rfl
    conv => cbv
    refine ⟨_, by omega, rx, rfl, ?_⟩
    conv => cbv
    refine ⟨fun _ => s1, ?_⟩
    refine ⟨⟨(p + 1, ar.ib .sub .i64 pi 1, ar.app Z [[PS.r 20 xv, .c (.sl xl es1)]]), hlt, hi1, hZ2⟩, ?_, ?_⟩
    · dsimp only
      conv => cbv
      simp
    · show es.length - (p + 1) < es.length - p
      omega
  · have g := cNge har (b := 0) h
    have hpe : p = es.length := by omega
    rw [hpe, List.take_of_length_le (by simp)] at hZ
    rw [← hZ] at hk
    conv => cbv
    exact hk
end Go.Eng
namespace Go.Eng
open Go Go.Proofs
set_option maxRecDepth 100000
set_option maxHeartbeats 16000000
set_option linter.unusedVariables false

def endz (z : PV) : List PS := [.r 20 (u8s mark20), .c z]
abbrev zNil : PV := .v (.slice none 0 0)

theorem twin14_own : Sound Try.prog 6 fun args k => ∃ (es : List Ent) (s : List (List PS)), args = [.s (.sl (es.map Ent.row) s)] ∧ es.length ≤ 2 ^ 30 ∧ (∀ e ∈ es, e.ks.length ≤ 2 ^ 30) ∧ k [.s (.on (es.map Ent.trow) [endz zNil] 62 21 48)] := by
  refine Sound.of_bodyT [] 0 tt_ok ent_ok Try.func6 rfl ?_
  rintro ar har Γ hΓ args k ⟨es, s, hargs, hlen, hks, hk⟩
  obtain ⟨X, hX⟩ : ∃ X, X = es.map Ent.row := ⟨_, rfl⟩
  have hXl : ar.len X = (es.length : Int) := by rw [lenIs har, hX, List.length_map]
  obtain ⟨N, hN⟩ : ∃ N, N = es.length + 1 := ⟨_, rfl⟩
  have e1 : ar.ib .add .i64 (ar.len X) 1 = (N : Int) := by rw [iSucc har hXl (by omega), hN]
  have m1 : ar.ib .add .i64 (ar.len X) 1 = (N : Int) ∧ ar.ib .add .i64 (ar.len X) 1 = (N : Int) ∧ 48 * N ≤ 281474976710656 ∧ N ≤ maxLen := ⟨e1, e1, by omega, by unfold maxLen; omega⟩
  rw [← hX] at hargs
  subst hargs
  conv => cbv
  refine ⟨N, fun _ => m1, ?_⟩
  conv => cbv
  refine .inr ⟨{ q : Nat × Int × List (List PS) // q.1 ≤ es.length ∧ q.2.1 = q.1 ∧ q.2.2 = (es.take q.1).map Ent.trow ++ List.replicate (es.length + 1 - q.1) zero74 },
    fun q => ⟨mk 67 [(0, .s (.p (.sl X s))), (3, .s (.own 0)), (4, pint q.1.2.1)], [.tre q.1.2.2 [] 62 21 48 none]⟩,
    fun q => es.length - q.1.1, [.tre 3], _, ⟨(0, 0, ar.rep N zero74), Nat.zero_le _, rfl, by rw [repIs har, hN]; rfl⟩, rfl, ?_, ?_⟩
  · conv => cbv
    simp
  rintro ⟨⟨p, pi, D⟩, hq⟩
  have hp : p ≤ es.length := hq.1
  have hpi : pi = (p : Int) := hq.2.1
  have hD : D = (es.take p).map Ent.trow ++ List.replicate (es.length + 1 - p) zero74 := hq.2.2
  have hDl : D.length = N := by rw [hD, List.length_append, List.length_map, List.length_take, List.length_replicate, hN]; omega
  dsimp only
  conv => cbv
  refine ⟨fun h => ?_, fun h => ?_⟩
  · have g := cLt har (b := ar.len X) h
    have hlt : p < es.length := by omega
    obtain ⟨e, hx⟩ : ∃ e, es[p]? = some e := ⟨_, List.getElem?_eq_getElem hlt⟩
    obtain ⟨ea, ek, es1⟩ := e
    have hekl : ek.length ≤ 2 ^ 30 := hks _ (List.mem_of_getElem? hx)
    obtain ⟨xv, hxv⟩ : ∃ xv, xv = u8s ea := ⟨_, rfl⟩
    obtain ⟨xl, hxl⟩ : ∃ xl, xl = ek.map key := ⟨_, rfl⟩
    have rx : X[pi.toNat]? = some [.r 20 xv, .c (.sl xl es1)] := by rw [hX, hpi]; simp [hx, Ent.row, hxv, hxl]
    obtain ⟨n, hn⟩ : ∃ n, n = ek.length := ⟨_, rfl⟩
    have hxll : xl.length = n := by rw [hxl, List.length_map, hn]
    have hlenx : ar.len xl = (n : Int) := by rw [lenIs har, hxll]
    have eL : ar.ib .add .i64 (ar.len xl) 1 = ((n + 1 : Nat) : Int) := iSucc har hlenx (by omega)
    obtain ⟨M, hM⟩ : ∃ M, M = n + 1 := ⟨_, rfl⟩
    have m2 : ar.ib .add .i64 (ar.len xl) 1 = (M : Int) ∧ ar.ib .add .i64 (ar.len xl) 1 = (M : Int) ∧ 32 * M ≤ 281474976710656 ∧ M ≤ maxLen := ⟨by rw [eL, hM], by rw [eL, hM], by omega, by unfold maxLen; omega⟩
    have hxr : ∀ y ∈ xl, rlen y = 32 := fun y hy => by
      rw [hxl, List.mem_map] at hy
      obtain ⟨w, _, rfl⟩ := hy
      rfl
    have hnat : ar.nat (ar.len xl) = n := by rw [natIs har, hlenx, Int.toNat_natCast]
    have eK : ar.cpy (ar.rep M zero26) xl = xl ++ [zero26] := by
      rw [cpyIs har, repIs har, hM, List.length_replicate, List.take_of_length_le (by rw [hxll]; omega), List.drop_replicate, hxll, Nat.add_sub_cancel_left]; rfl
    have hlenK : (ar.cpy (ar.rep M zero26) xl).length = n + 1 := by rw [eK]; simp [hxll]
    have b1 : 0 ≤ ar.len xl ∧ ar.len xl < ((ar.cpy (ar.rep M zero26) xl).length : Int) := by rw [hlenx, hlenK]; omega
    have b2 : ar.nat (ar.len xl) < (ar.cpy (ar.rep M zero26) xl).length ∧ rlen (key mark32) = 32 := ⟨by rw [hlenK, hnat]; omega, rfl⟩
    have eK2 : ar.setx (ar.cpy (ar.rep M zero26) xl) (ar.nat (ar.len xl)) (key mark32) = xl ++ [key mark32] := by
      rw [setxIs har, eK, hnat, List.set_append_right _ _ (by omega), hxll, Nat.sub_self]; rfl
    have b3 : 0 ≤ ar.len xl ∧ ar.len xl ≤ (((ar.setx (ar.cpy (ar.rep M zero26) xl) (ar.nat (ar.len xl)) (key mark32)).length + 0 : Nat) : Int) := by
      rw [eK2, List.length_append, hxll, hlenx]; simp only [List.length_singleton]; omega
    have b4 : 0 ≤ pi ∧ pi < (D.length : Int) := by rw [hDl]; omega
    have rD : D[ar.nat pi]? = some zero74 := by
      rw [natIs har, hpi, Int.toNat_natCast, hD, List.getElem?_append_right (by rw [List.length_map, List.length_take]; omega), List.length_map, List.length_take, Nat.min_eq_left hp, Nat.sub_self, List.getElem?_replicate, if_pos (by omega)]
    have hD2 : ar.setx D (ar.nat pi) [.r 20 xv, .c (.sl (ar.mid (ar.setx (ar.cpy (ar.rep M zero26) xl) (ar.nat (ar.len xl)) (key mark32)) 0 (ar.nat (ar.len xl))) (ar.frm (ar.setx (ar.cpy (ar.rep M zero26) xl) (ar.nat (ar.len xl)) (key mark32)) (ar.nat (ar.len xl))))] = (es.take (p + 1)).map Ent.trow ++ List.replicate (es.length + 1 - (p + 1)) zero74 := by
      rw [eK2, setxIs har, midIs har, frmIs har, hnat, ← hxll, List.take_left, List.drop_left, List.drop_zero, natIs har, hpi, Int.toNat_natCast, hD, take_succ_get hx, List.map_append, List.set_append_right _ _ (by rw [List.length_map, List.length_take]; omega), List.length_map, List.length_take, Nat.min_eq_left hp, Nat.sub_self, show es.length + 1 - p = (es.length + 1 - (p + 1)) + 1 by omega, List.replicate_succ, hxv, hxl]
      simp [Ent.trow]
    conv => cbv
    refine ⟨_, by omega, rx, rfl, ?_⟩
    conv => cbv
    refine ⟨M, fun _ => m2, ?_⟩
    conv => cbv
    refine ⟨_, by omega, rx, rfl, ?_⟩
    conv => cbv
    refine ⟨fun _ => hxr, ?_⟩
    conv => cbv
    refine ⟨_, by omega, rx, rfl, ?_⟩
    conv => cbv
    refine ⟨fun _ => b1, fun _ => b2, by rw [har]; kernel_rfl, _, by omega, rx, rfl, ?_⟩
    conv => cbv
    refine ⟨_, by omega, rx, rfl, ?_⟩
    conv => cbv
    refine .inr ⟨fun _ => b3, fun _ => b4, _, rD, ?_⟩
    conv => cbv
    refine ⟨⟨(p + 1, ar.ib .add .i64 pi 1, ar.setx D (ar.nat pi) [.r 20 xv, .c (.sl (ar.mid (ar.setx (ar.cpy (ar.rep M zero26) xl) (ar.nat (ar.len xl)) (key mark32)) 0 (ar.nat (ar.len xl))) (ar.frm (ar.setx (ar.cpy (ar.rep M zero26) xl) (ar.nat (ar.len xl)) (key mark32)) (ar.nat (ar.len xl))))]), hlt, iSucc har hpi (by omega), hD2⟩, ?_, ?_⟩
    · dsimp only
      conv => cbv
      simp
    · show es.length - (p + 1) < es.length - p
      omega
  · have g := cNlt har (b := ar.len X) h
    have hpe : p = es.length := by omega
    have hD3 : D = es.map Ent.trow ++ [zero74] := by rw [hD, hpe, List.take_length, Nat.add_sub_cancel_left]; rfl
    have hn : ar.nat (ar.len X) = es.length := by rw [natIs har, hXl, Int.toNat_natCast]
    have b5 : 0 ≤ ar.len X ∧ ar.len X < (D.length : Int) := by rw [hDl]; omega
    have rD : D[ar.nat (ar.len X)]? = some zero74 := by
      rw [hn, hD3, List.getElem?_append_right (by rw [List.length_map]; exact Nat.le_refl _), List.length_map, Nat.sub_self]; rfl
    have eF : ar.setx D (ar.nat (ar.len X)) (endz zNil) = es.map Ent.trow ++ [endz zNil] := by
      rw [setxIs har, hn, hD3, List.set_append_right _ _ (by rw [List.length_map]; exact Nat.le_refl _), List.length_map, Nat.sub_self]; rfl
    have b6 : 0 ≤ ar.len X ∧ ar.len X ≤ (((ar.setx D (ar.nat (ar.len X)) (endz zNil)).length + 0 : Nat) : Int) := by
      rw [eF, List.length_append, List.length_map]; simp only [List.length_singleton]; omega
    have hk2 : k [.s (.on (ar.mid (ar.app (ar.setx D (ar.nat (ar.len X)) (endz zNil)) []) 0 (ar.nat (ar.len X))) (ar.frm (ar.app (ar.setx D (ar.nat (ar.len X)) (endz zNil)) []) (ar.nat (ar.len X))) 62 21 48)] := by
      rw [appIs har, List.append_nil, eF, midIs har, frmIs har, hn, List.drop_zero, List.take_left' (by rw [List.length_map]), List.drop_left' (by rw [List.length_map])]
      exact hk
    conv => cbv
    refine ⟨fun _ => b5, _, rD, ?_⟩
    conv => cbv
    exact ⟨fun _ => b6, _, loosRs_refl _, hk2⟩
end Go.Eng
namespace Go.Eng
open Go Go.Proofs

def Ent.tw14 (e : Ent) : Ent := ⟨e.a, e.ks, [key mark32]⟩
theorem map_tw14 (es : List Ent) : es.map Ent.trow = (es.map Ent.tw14).map Ent.row := by
  rw [List.map_map]; rfl

set_option maxRecDepth 100000
theorem stillz_sound : Sound Try.prog 11 fun args k => ∃ (es : List Ent) (s : List (List PS)) (z : PV), args = [.s (.sl (es.map Ent.trow) [endz z]), .s (.sl (es.map Ent.row) s)] ∧ es.length ≤ 2 ^ 40 ∧ (∀ e ∈ es, e.ks.length ≤ 2 ^ 40) ∧ k [.s (.v (.bool true))] := by
  refine Sound.of_body tt_ok ent_ok Try.func11 rfl ?_
  rintro ar har Γ hΓ args k ⟨es, s, z, rfl, hlen, hks, hk⟩
  obtain ⟨X, hX⟩ : ∃ X, X = es.map Ent.row := ⟨_, rfl⟩
  obtain ⟨T, hT⟩ : ∃ T, T = es.map Ent.trow := ⟨_, rfl⟩
  obtain ⟨N, hN⟩ : ∃ N, N = es.length := ⟨_, rfl⟩
  have hnat : ∀ q : Nat, ar.nat (q : Int) = q := fun q => by rw [har]; exact Int.toNat_natCast q
  have hlenx : ar.len X = (N : Int) := by rw [har]; show (X.length : Int) = N; rw [hX, List.length_map, hN]
  have hTl : T.length = N := by rw [hT, List.length_map, hN]
  have hadd : ar.ib .add .i64 (ar.len X) 1 = ((N + 1 : Nat) : Int) := by
    rw [hlenx, har]; simp only [arS, intB]; rw [wrap_small (by omega)]; rfl
  rw [← hX, ← hT]
  cbv
  have hadd : ar.ib .add .i64 (ar.len X) 1 = ((N + 1 : Nat) : Int) := hadd
  refine ⟨fun _ => ?_, ?_⟩
  · show 0 ≤ ar.ib .add .i64 (ar.len X) 1 ∧ ar.ib .add .i64 (ar.len X) 1 ≤ ((T.length + 1 : Nat) : Int)
    rw [hadd, hTl]; omega
  cbv
  refine call_by hΓ sameList_sound ⟨es.map Ent.tw14, es, [(endz z)], s, by rw [hT, hX, map_tw14]; rfl, by rw [List.length_map]; exact hlen, ?_, ?_⟩
  · intro e he
    rw [List.mem_map] at he
    obtain ⟨e', he', rfl⟩ := he
    exact hks e' he'
  have e1 : ((es.map Ent.tw14).map Ent.core == es.map Ent.core) = true := by
    rw [beq_iff_eq, List.map_map]; rfl
  rw [e1]
  cbv
  refine ⟨fun hb => ?_, fun hb => ?_⟩
  · cbv
    have hz : ar.mid (ar.app T [(endz z)]) 0 (ar.nat (ar.ib .add .i64 (ar.len X) 1)) = T ++ [(endz z)] := by
      have hadd : ar.ib .add .i64 (ar.len X) 1 = ((N + 1 : Nat) : Int) := hadd
      have hnat : ∀ q : Nat, ar.nat (q : Int) = q := hnat
      rw [hadd, hnat, har]
      show ((T ++ [(endz z)]).take (N + 1)).drop 0 = _
      rw [List.take_of_length_le (by simp [hTl]), List.drop_zero]
    have hlenx : ar.len X = (N : Int) := hlenx
    refine ⟨(endz z), ?_, ?_, rfl, ?_⟩
    · show 0 ≤ ar.len X
      rw [hlenx]; omega
    · have h2 : (ar.mid (ar.app T [(endz z)]) 0 (ar.nat (ar.ib .add .i64 (ar.len X) 1)))[(ar.len X).toNat]? = some (endz z) := by
        rw [hz, hlenx, Int.toNat_natCast, List.getElem?_append_right (by omega), hTl, Nat.sub_self]; rfl
      exact h2
    cbv
    refine ⟨fun _ => ⟨ints_u8s mark20, ints_u8s mark20⟩, fun hb2 => ?_, fun hb2 => ?_⟩
    · have h2 : ar.nb (ar.eqv (u8s mark20) (u8s mark20)) = true := hb2
      rw [har] at h2
      simp [arS, eqVals_u8s] at h2
    cbv
    refine .inr ⟨{ q : Nat × Int // q.1 ≤ es.length ∧ q.2 = q.1 }, fun q => ⟨mk 54 [(0, .s (.p (.sl T [(endz z)]))), (1, .s (.p (.sl X s))), (6, pint q.1.2)], []⟩,
      fun q => es.length - q.1.1, [], _, ⟨(0, 0), Nat.zero_le _, rfl⟩, rfl, ?_, ?_⟩
    · cbv
    rintro ⟨⟨p, pi⟩, hq⟩
    have hp : p ≤ es.length := hq.1
    have hpi : pi = (p : Int) := hq.2
    dsimp only
    cbv
    constructor
    · intro hlt
      have hpi : pi = (p : Int) := hpi
      have hlt' : p < es.length := by rw [har] at hlt; simpa [arS, intC, hX, hpi] using hlt
      obtain ⟨e, hx⟩ : ∃ e, es[p]? = some e := ⟨_, List.getElem?_eq_getElem hlt'⟩
      obtain ⟨ea, ek, es1⟩ := e
      have hekl : ek.length ≤ 2 ^ 40 := hks _ (List.mem_of_getElem? hx)
      obtain ⟨xv, hxv⟩ : ∃ xv, xv = u8s ea := ⟨_, rfl⟩
      obtain ⟨xl, hxl⟩ : ∃ xl, xl = ek.map key := ⟨_, rfl⟩
      obtain ⟨n, hn⟩ : ∃ n, n = ek.length := ⟨_, rfl⟩
      have hxll : xl.length = n := by rw [hxl, List.length_map, hn]
      have hlenl : ar.len xl = (n : Int) := by rw [har]; show (xl.length : Int) = n; rw [hxll]
      have hadd2 : ar.ib .add .i64 (ar.len xl) 1 = ((n + 1 : Nat) : Int) := by
        rw [hlenl, har]; simp only [arS, intB]; rw [wrap_small (by omega)]; rfl
      have rx : X[pi.toNat]? = some [.r 20 xv, .c (.sl xl es1)] := by rw [hX, hpi]; simp [hx, Ent.row, hxv, hxl]
      have rt : T[pi.toNat]? = some [.r 20 xv, .c (.sl xl [key mark32])] := by rw [hT, hpi]; simp [hx, Ent.trow, hxv, hxl]
      cbv
      have hpi : pi = (p : Int) := hpi
      refine ⟨_, by omega, rx, rfl, ?_⟩
      cbv
      have hpi : pi = (p : Int) := hpi
      refine ⟨_, by omega, rt, rfl, ?_⟩
      cbv
      have hadd2 : ar.ib .add .i64 (ar.len xl) 1 = ((n + 1 : Nat) : Int) := hadd2
      have hlenl : ar.len xl = (n : Int) := hlenl
      have hnat : ∀ q : Nat, ar.nat (q : Int) = q := hnat
      have hz2 : ar.mid (ar.app xl [key mark32]) 0 (ar.nat (ar.ib .add .i64 (ar.len xl) 1)) = xl ++ [key mark32] := by
        rw [hadd2, hnat, har]
        show ((xl ++ [key mark32]).take (n + 1)).drop 0 = _
        rw [List.take_of_length_le (by simp [hxll]), List.drop_zero]
      refine ⟨fun _ => ?_, key mark32, ?_, ?_, rfl, ?_⟩
      · show 0 ≤ ar.ib .add .i64 (ar.len xl) 1 ∧ ar.ib .add .i64 (ar.len xl) 1 ≤ ((xl.length + 1 : Nat) : Int)
        rw [hadd2, hxll]; omega
      · show 0 ≤ ar.len xl
        rw [hlenl]; omega
      · have h2 : (ar.mid (ar.app xl [key mark32]) 0 (ar.nat (ar.ib .add .i64 (ar.len xl) 1)))[(ar.len xl).toNat]? = some (key mark32) := by
          rw [hz2, hlenl, Int.toNat_natCast, List.getElem?_append_right (by omega), hxll, Nat.sub_self]; rfl
        exact h2
      cbv
      refine ⟨fun _ => ⟨ints_u8s mark32, ints_u8s mark32⟩, fun hb2 => ?_, fun hb2 => ?_⟩
      · have h2 : ar.nb (ar.eqv (u8s mark32) (u8s mark32)) = true := hb2
        rw [har] at h2
        simp [arS, eqVals_u8s] at h2
      cbv
      refine ⟨⟨(p + 1, ar.ib .add .i64 pi 1), hlt', ?_⟩, ?_, ?_⟩
      · have hpi : pi = (p : Int) := hpi
        show ar.ib .add .i64 pi 1 = ((p + 1 : Nat) : Int)
        rw [har, hpi]; simp only [arS, intB]; rw [wrap_small (by omega)]; omega
      · dsimp only
        cbv
      · show es.length - (p + 1) < es.length - p
        omega
    · intro hge
      cbv
      exact hk
  · have h2 : ar.nb true = true := hb
    rw [har] at h2
    cases h2
end Go.Eng
