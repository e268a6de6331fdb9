/-
  The reference's Warm tells what access.Warm tells. Condition: as there.
-/
import Derived.Test.YtpcgpmgjbgenkaaA3
namespace Go.Eng
open Go Go.Proofs
set_option maxRecDepth 100000
theorem refWarm_sound : Sound Try.prog 14 fun args k => ∃ (es : List Ent) (s : List (List PS)) (addr slot : List Int), args = [.s (.sl (es.map Ent.row) s), .a [.r 20 (u8s addr)], .a [.r 32 (u8s slot)]] ∧ es.length ≤ 2 ^ 40 ∧ (∀ e ∈ es, e.ks.length ≤ 2 ^ 40) ∧
    k [.s (.v (.bool (warmA es addr))), .s (.v (.bool (warmB es addr slot)))] := by
  refine Sound.of_body tt_ok ent_ok Try.func14 rfl ?_
  rintro ar har Γ hΓ args k ⟨es, s, addr, slot, rfl, hlen, hks, hk⟩
  obtain ⟨X, hX⟩ : ∃ X, X = es.map Ent.row := ⟨_, rfl⟩
  obtain ⟨av, hav⟩ : ∃ av, av = u8s addr := ⟨_, rfl⟩
  obtain ⟨sv, hsv⟩ : ∃ sv, sv = u8s slot := ⟨_, rfl⟩
  obtain ⟨ra, hra⟩ : ∃ ra, ra = warmA es addr := ⟨_, rfl⟩
  obtain ⟨rb, hrb⟩ : ∃ rb, rb = warmB es addr slot := ⟨_, rfl⟩
  rw [← hX, ← hav, ← hsv]
  rw [← hra, ← hrb] at hk
  cbv
  refine ⟨{ q : Nat × Int × Bool × Bool // q.1 ≤ es.length ∧ q.2.1 = q.1 ∧ q.2.2.1 = warmA (es.take q.1) addr ∧ q.2.2.2 = warmB (es.take q.1) addr slot },
    fun q => ⟨mk 50 [(0, .s (.p (.sl X s))), (4, .s (.ptr 0 0)), (5, .s (.ptr 1 0)), (8, pbool q.1.2.2.1), (9, pbool q.1.2.2.2), (10, pint q.1.2.1)], [.box [.r 20 av], .box [.r 32 sv]]⟩,
    fun q => es.length - q.1.1, [], _, ⟨(0, 0, false, false), Nat.zero_le _, rfl, rfl, rfl⟩, rfl, ?_, ?_⟩
  · cbv
  · rintro ⟨⟨p, pi, fa, fb⟩, hq⟩
    have hp : p ≤ es.length := hq.1
    have hpi : pi = (p : Int) := hq.2.1
    have hfa : fa = warmA (es.take p) addr := hq.2.2.1
    have hfb : fb = warmB (es.take p) addr slot := hq.2.2.2
    dsimp only
    cbv
    constructor
    · intro hlt
      have hpi : pi = (p : Int) := hpi
      have hlt' : p < es.length := by rw [har] at hlt; simpa [arS, intC, hX, hpi] using hlt
      obtain ⟨e, hx⟩ : ∃ e, es[p]? = some e := ⟨_, List.getElem?_eq_getElem hlt'⟩
      obtain ⟨ea, ek, es1⟩ := e
      obtain ⟨xv, hxv⟩ : ∃ xv, xv = u8s ea := ⟨_, rfl⟩
      obtain ⟨xl, hxl⟩ : ∃ xl, xl = ek.map key := ⟨_, rfl⟩
      have rx : X[pi.toNat]? = some [.r 20 xv, .c (.sl xl es1)] := by rw [hX, hpi]; simp [hx, Ent.row, hxv, hxl]
      have tk : es.take (p + 1) = es.take p ++ [⟨ea, ek, es1⟩] := by rw [List.take_add_one, hx]; rfl
      have tA : warmA (es.take (p + 1)) addr = (fa || ea == addr) := by rw [tk, hfa]; simp [warmA]
      have tB : warmB (es.take (p + 1)) addr slot = (fb || (ea == addr && ek.any fun k => k == slot)) := by rw [tk, hfb]; simp [warmB]
      cbv
      refine ⟨by rw [har]; kernel_rfl, ?_⟩
      have hpi : pi = (p : Int) := hpi
      refine ⟨_, by omega, rx, rfl, ?_⟩
      cbv
      refine ⟨fun _ => ⟨by rw [hxv]; exact ints_u8s ea, by rw [hav]; exact ints_u8s addr⟩, fun hne => ?_, fun hne => ?_⟩
      · have hxy : (ea == addr) = false := by rw [har, hxv, hav] at hne; simpa [arS, eqVals_u8s] using hne
        cbv
        refine ⟨⟨(p + 1, ar.ib .add .i64 pi 1, fa, fb), hlt', ?_, ?_, ?_⟩, ?_, ?_⟩
        · have hpi : pi = (p : Int) := hpi
          show ar.ib .add .i64 pi 1 = ((p + 1 : Nat) : Int)
          rw [har, hpi]; simp only [arS, intB]; rw [wrap_small (by omega)]; omega
        · show fa = warmA (es.take (p + 1)) addr
          rw [tA, hxy, Bool.or_false]
        · show fb = warmB (es.take (p + 1)) addr slot
          rw [tB, hxy, Bool.false_and, Bool.or_false]
        · dsimp only
          cbv
        · show es.length - (p + 1) < es.length - p
          omega
      · have hxy : (ea == addr) = true := by rw [har, hxv, hav] at hne; simpa [arS, eqVals_u8s] using hne
        cbv
        have hekl : ek.length ≤ 2 ^ 40 := hks _ (List.mem_of_getElem? hx)
        refine ⟨{ q : Nat × Int × Bool // q.1 ≤ ek.length ∧ q.2.1 = q.1 ∧ q.2.2 = (fb || (ek.take q.1).any fun k => k == slot) },
          fun q => ⟨mk 50 [(0, .s (.p (.sl X s))), (4, .s (.ptr 0 0)), (5, .s (.ptr 1 0)), (8, pbool true), (9, pbool q.1.2.2), (10, pint pi), (11, pint q.1.2.1)], [.box [.r 20 av], .box [.r 32 sv]]⟩,
          fun q => ek.length - q.1.1, [], _, ⟨(0, 0, fb), Nat.zero_le _, rfl, by simp⟩, rfl, ?_, ?_⟩
        · cbv
        · rintro ⟨⟨q, qi, fc⟩, hq'⟩
          have hqq : q ≤ ek.length := hq'.1
          have hqi : qi = (q : Int) := hq'.2.1
          have hfc : fc = (fb || (ek.take q).any fun k => k == slot) := hq'.2.2
          dsimp only
          cbv
          have hpi : pi = (p : Int) := hpi
          refine ⟨_, by omega, rx, rfl, ?_⟩
          cbv
          constructor
          · intro hlt2
            have hqi : qi = (q : Int) := hqi
            have hlt2' : q < ek.length := by rw [har] at hlt2; simpa [arS, intC, hxl, hqi] using hlt2
            obtain ⟨w, hw⟩ : ∃ w, ek[q]? = some w := ⟨_, List.getElem?_eq_getElem hlt2'⟩
            obtain ⟨wv, hwv⟩ : ∃ wv, wv = u8s w := ⟨_, rfl⟩
            have rw1 : xl[qi.toNat]? = some [.r 32 wv] := by rw [hxl, hqi]; simp [hw, key, hwv]
            have tw : (fb || (ek.take (q + 1)).any fun k => k == slot) = (fc || w == slot) := by rw [List.take_add_one, hw, hfc]; simp [Bool.or_assoc]
            cbv
            refine ⟨by rw [har]; kernel_rfl, fun hb => ?_, fun hb => ?_⟩
            · have hb : fc = false := hb
              cbv
              have hpi : pi = (p : Int) := hpi
              refine ⟨_, by omega, rx, rfl, ?_⟩
              cbv
              have hqi : qi = (q : Int) := hqi
              refine ⟨_, by omega, rw1, rfl, ?_⟩
              cbv
              refine ⟨fun _ => ⟨by rw [hwv]; exact ints_u8s w, by rw [hsv]; exact ints_u8s slot⟩, ⟨(q + 1, ar.ib .add .i64 qi 1, ar.eqv wv sv), hlt2', ?_, ?_⟩, ?_, ?_⟩
              · have hqi : qi = (q : Int) := hqi
                show ar.ib .add .i64 qi 1 = ((q + 1 : Nat) : Int)
                rw [har, hqi]; simp only [arS, intB]; rw [wrap_small (by omega)]; omega
              · show ar.eqv wv sv = (fb || (ek.take (q + 1)).any fun k => k == slot)
                rw [tw, hb, Bool.false_or, har, hwv, hsv]; exact eqVals_u8s w slot
              · dsimp only
                cbv
              · show ek.length - (q + 1) < ek.length - q
                omega
            · have hb : fc = true := hb
              cbv
              refine ⟨⟨(q + 1, ar.ib .add .i64 qi 1, true), hlt2', ?_, ?_⟩, ?_, ?_⟩
              · have hqi : qi = (q : Int) := hqi
                show ar.ib .add .i64 qi 1 = ((q + 1 : Nat) : Int)
                rw [har, hqi]; simp only [arS, intB]; rw [wrap_small (by omega)]; omega
              · show true = (fb || (ek.take (q + 1)).any fun k => k == slot)
                rw [tw, hb, Bool.true_or]
              · dsimp only
                cbv
              · show ek.length - (q + 1) < ek.length - q
                omega
          · intro hge2
            have hqi : qi = (q : Int) := hqi
            have hge2' : q = ek.length := by rw [har] at hge2; simp [arS, intC, hxl, hqi] at hge2; omega
            cbv
            refine ⟨⟨(p + 1, ar.ib .add .i64 pi 1, true, fc), hlt', ?_, ?_, ?_⟩, ?_, ?_⟩
            · have hpi : pi = (p : Int) := hpi
              show ar.ib .add .i64 pi 1 = ((p + 1 : Nat) : Int)
              rw [har, hpi]; simp only [arS, intB]; rw [wrap_small (by omega)]; omega
            · show true = warmA (es.take (p + 1)) addr
              rw [tA, hxy, Bool.or_true]
            · show fc = warmB (es.take (p + 1)) addr slot
              rw [tB, hxy, Bool.true_and, hfc, hge2', List.take_length]
            · dsimp only
              cbv
            · show es.length - (p + 1) < es.length - p
              omega
    · intro hge
      have hpi : pi = (p : Int) := hpi
      have hge' : p = es.length := by rw [har] at hge; simp [arS, intC, hX, hpi] at hge; omega
      cbv
      rw [hge', List.take_length, ← hra] at hfa
      rw [hge', List.take_length, ← hrb] at hfb
      rw [← hfa, ← hfb] at hk
      exact hk
end Go.Eng
