/-
  still is true of a twin that nobody has written to. Condition: as for twin.
-/
import Derived.Test.YtpcgpmgjbgenkaaA6
import Derived.Test.YtpcgpmgjbgenkaaA2
namespace Go.Eng
open Go Go.Proofs

def Ent.tw (e : Ent) : Ent := ⟨e.a, e.ks, [key mark32]⟩
theorem map_tw (es : List Ent) : es.map Ent.trow = (es.map Ent.tw).map Ent.row := by
  rw [List.map_map]; rfl

set_option maxRecDepth 100000
theorem still_sound : Sound Try.prog 15 fun args k => ∃ (es : List Ent) (s : List (List PS)), args = [.s (.sl (es.map Ent.trow) [endrow]), .s (.sl (es.map Ent.row) s)] ∧ es.length ≤ 2 ^ 40 ∧ (∀ e ∈ es, e.ks.length ≤ 2 ^ 40) ∧ k [.s (.v (.bool true))] := by
  refine Sound.of_body tt_ok ent_ok Try.func15 rfl ?_
  rintro ar har Γ hΓ args k ⟨es, s, rfl, hlen, hks, hk⟩
  obtain ⟨X, hX⟩ : ∃ X, X = es.map Ent.row := ⟨_, rfl⟩
  obtain ⟨T, hT⟩ : ∃ T, T = es.map Ent.trow := ⟨_, rfl⟩
  obtain ⟨N, hN⟩ : ∃ N, N = es.length := ⟨_, rfl⟩
  have hnat : ∀ q : Nat, ar.nat (q : Int) = q := fun q => by rw [har]; exact Int.toNat_natCast q
  have hlenx : ar.len X = (N : Int) := by rw [har]; show (X.length : Int) = N; rw [hX, List.length_map, hN]
  have hTl : T.length = N := by rw [hT, List.length_map, hN]
  have hadd : ar.ib .add .i64 (ar.len X) 1 = ((N + 1 : Nat) : Int) := by
    rw [hlenx, har]; simp only [arS, intB]; rw [wrap_small (by omega)]; rfl
  rw [← hX, ← hT]
  cbv
  have hadd : ar.ib .add .i64 (ar.len X) 1 = ((N + 1 : Nat) : Int) := hadd
  refine ⟨fun _ => ?_, ?_⟩
  · show 0 ≤ ar.ib .add .i64 (ar.len X) 1 ∧ ar.ib .add .i64 (ar.len X) 1 ≤ ((T.length + 1 : Nat) : Int)
    rw [hadd, hTl]; omega
  cbv
  refine call_by hΓ sameList_sound ⟨es.map Ent.tw, es, [endrow], s, by rw [hT, hX, map_tw]; rfl, by rw [List.length_map]; exact hlen, ?_, ?_⟩
  · intro e he
    rw [List.mem_map] at he
    obtain ⟨e', he', rfl⟩ := he
    exact hks e' he'
  have e1 : ((es.map Ent.tw).map Ent.core == es.map Ent.core) = true := by
    rw [beq_iff_eq, List.map_map]; rfl
  rw [e1]
  cbv
  refine ⟨fun hb => ?_, fun hb => ?_⟩
  · cbv
    have hz : ar.mid (ar.app T [endrow]) 0 (ar.nat (ar.ib .add .i64 (ar.len X) 1)) = T ++ [endrow] := by
      have hadd : ar.ib .add .i64 (ar.len X) 1 = ((N + 1 : Nat) : Int) := hadd
      have hnat : ∀ q : Nat, ar.nat (q : Int) = q := hnat
      rw [hadd, hnat, har]
      show ((T ++ [endrow]).take (N + 1)).drop 0 = _
      rw [List.take_of_length_le (by simp [hTl]), List.drop_zero]
    have hlenx : ar.len X = (N : Int) := hlenx
    refine ⟨endrow, ?_, ?_, rfl, ?_⟩
    · show 0 ≤ ar.len X
      rw [hlenx]; omega
    · have h2 : (ar.mid (ar.app T [endrow]) 0 (ar.nat (ar.ib .add .i64 (ar.len X) 1)))[(ar.len X).toNat]? = some endrow := by
        rw [hz, hlenx, Int.toNat_natCast, List.getElem?_append_right (by omega), hTl, Nat.sub_self]; rfl
      exact h2
    cbv
    refine ⟨fun _ => ⟨ints_u8s mark20, ints_u8s mark20⟩, fun hb2 => ?_, fun hb2 => ?_⟩
    · have h2 : ar.nb (ar.eqv (u8s mark20) (u8s mark20)) = true := hb2
      rw [har] at h2
      simp [arS, eqVals_u8s] at h2
    cbv
    refine ⟨{ q : Nat × Int // q.1 ≤ es.length ∧ q.2 = q.1 }, fun q => ⟨mk 54 [(0, .s (.p (.sl T [endrow]))), (1, .s (.p (.sl X s))), (6, pint q.1.2)], []⟩,
      fun q => es.length - q.1.1, [], _, ⟨(0, 0), Nat.zero_le _, rfl⟩, rfl, ?_, ?_⟩
    · cbv
    rintro ⟨⟨p, pi⟩, hq⟩
    have hp : p ≤ es.length := hq.1
    have hpi : pi = (p : Int) := hq.2
    dsimp only
    cbv
    constructor
    · intro hlt
      have hpi : pi = (p : Int) := hpi
      have hlt' : p < es.length := by rw [har] at hlt; simpa [arS, intC, hX, hpi] using hlt
      obtain ⟨e, hx⟩ : ∃ e, es[p]? = some e := ⟨_, List.getElem?_eq_getElem hlt'⟩
      obtain ⟨ea, ek, es1⟩ := e
      have hekl : ek.length ≤ 2 ^ 40 := hks _ (List.mem_of_getElem? hx)
      obtain ⟨xv, hxv⟩ : ∃ xv, xv = u8s ea := ⟨_, rfl⟩
      obtain ⟨xl, hxl⟩ : ∃ xl, xl = ek.map key := ⟨_, rfl⟩
      obtain ⟨n, hn⟩ : ∃ n, n = ek.length := ⟨_, rfl⟩
      have hxll : xl.length = n := by rw [hxl, List.length_map, hn]
      have hlenl : ar.len xl = (n : Int) := by rw [har]; show (xl.length : Int) = n; rw [hxll]
      have hadd2 : ar.ib .add .i64 (ar.len xl) 1 = ((n + 1 : Nat) : Int) := by
        rw [hlenl, har]; simp only [arS, intB]; rw [wrap_small (by omega)]; rfl
      have rx : X[pi.toNat]? = some [.r 20 xv, .c (.sl xl es1)] := by rw [hX, hpi]; simp [hx, Ent.row, hxv, hxl]
      have rt : T[pi.toNat]? = some [.r 20 xv, .c (.sl xl [key mark32])] := by rw [hT, hpi]; simp [hx, Ent.trow, hxv, hxl]
      cbv
      have hpi : pi = (p : Int) := hpi
      refine ⟨_, by omega, rx, rfl, ?_⟩
      cbv
      have hpi : pi = (p : Int) := hpi
      refine ⟨_, by omega, rt, rfl, ?_⟩
      cbv
      have hadd2 : ar.ib .add .i64 (ar.len xl) 1 = ((n + 1 : Nat) : Int) := hadd2
      have hlenl : ar.len xl = (n : Int) := hlenl
      have hnat : ∀ q : Nat, ar.nat (q : Int) = q := hnat
      have hz2 : ar.mid (ar.app xl [key mark32]) 0 (ar.nat (ar.ib .add .i64 (ar.len xl) 1)) = xl ++ [key mark32] := by
        rw [hadd2, hnat, har]
        show ((xl ++ [key mark32]).take (n + 1)).drop 0 = _
        rw [List.take_of_length_le (by simp [hxll]), List.drop_zero]
      refine ⟨fun _ => ?_, key mark32, ?_, ?_, rfl, ?_⟩
      · show 0 ≤ ar.ib .add .i64 (ar.len xl) 1 ∧ ar.ib .add .i64 (ar.len xl) 1 ≤ ((xl.length + 1 : Nat) : Int)
        rw [hadd2, hxll]; omega
      · show 0 ≤ ar.len xl
        rw [hlenl]; omega
      · have h2 : (ar.mid (ar.app xl [key mark32]) 0 (ar.nat (ar.ib .add .i64 (ar.len xl) 1)))[(ar.len xl).toNat]? = some (key mark32) := by
          rw [hz2, hlenl, Int.toNat_natCast, List.getElem?_append_right (by omega), hxll, Nat.sub_self]; rfl
        exact h2
      cbv
      refine ⟨fun _ => ⟨ints_u8s mark32, ints_u8s mark32⟩, fun hb2 => ?_, fun hb2 => ?_⟩
      · have h2 : ar.nb (ar.eqv (u8s mark32) (u8s mark32)) = true := hb2
        rw [har] at h2
        simp [arS, eqVals_u8s] at h2
      cbv
      refine ⟨⟨(p + 1, ar.ib .add .i64 pi 1), hlt', ?_⟩, ?_, ?_⟩
      · have hpi : pi = (p : Int) := hpi
        show ar.ib .add .i64 pi 1 = ((p + 1 : Nat) : Int)
        rw [har, hpi]; simp only [arS, intB]; rw [wrap_small (by omega)]; omega
      · dsimp only
        cbv
      · show es.length - (p + 1) < es.length - p
        omega
    · intro hge
      cbv
      exact hk
  · have h2 : ar.nb true = true := hb
    rw [har] at h2
    cases h2
end Go.Eng
