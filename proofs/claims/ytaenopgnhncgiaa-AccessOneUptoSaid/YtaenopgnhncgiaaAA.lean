/-
  sameKeys answers whether two lists of keys are the same. Condition: at most 2^40 keys.
  sameList answers whether two access lists are the same. Condition: at most 2^40 entries, of at most 2^40 keys each.
  twin hands back the list anew, with a mark behind its end and behind each entry's keys. Condition: at most 2^40 entries, of at most 2^40 keys each.
-/
import Derived.Test.YtaenopgnhncgiaaA0
namespace Go.Eng
open Go Go.Proofs

set_option maxRecDepth 100000
theorem sameKeys_sound : Sound Try.prog 53 fun args k => ∃ (xs ys : List (List Int)) (s t : List (List PS)), args = [.s (.sl (xs.map key) s), .s (.sl (ys.map key) t)] ∧ xs.length ≤ 2 ^ 40 ∧ k [.s (.v (.bool (xs == ys)))] := by
  refine Sound.of_body tt_ok ent_ok Try.func53 rfl ?_
  rintro ar har Γ hΓ args k ⟨xs, ys, s, t, rfl, hlen, hk⟩
  obtain ⟨X, hX⟩ : ∃ X, X = xs.map key := ⟨_, rfl⟩
  obtain ⟨Y, hY⟩ : ∃ Y, Y = ys.map key := ⟨_, rfl⟩
  rw [← hX, ← hY]
  cbv
  constructor
  · intro h
    have hne : xs.length ≠ ys.length := by rw [har] at h; simp [arS, intC, hX, hY] at h; omega
    cbv
    have e : (xs == ys) = false := by
      rw [beq_eq_false_iff_ne]; intro e; exact hne (by rw [e])
    rw [e] at hk
    exact hk
  · intro h
    have hne : xs.length = ys.length := by rw [har] at h; simp [arS, intC, hX, hY] at h; omega
    cbv
    refine .inr ⟨{ q : Nat × Int // q.1 ≤ xs.length ∧ q.2 = q.1 ∧ xs.take q.1 = ys.take q.1 }, fun q => ⟨mk 26 [(0, .s (.p (.sl X s))), (1, .s (.p (.sl Y t))), (5, pint q.1.2)], []⟩,
      fun q => xs.length - q.1.1, [], _, ⟨(0, 0), Nat.zero_le _, rfl, rfl⟩, rfl, ?_, ?_⟩
    · cbv
    · rintro ⟨⟨p, pi⟩, hq⟩
      have hp : p ≤ xs.length := hq.1
      have hpi : pi = (p : Int) := hq.2.1
      have hsame : xs.take p = ys.take p := hq.2.2
      dsimp only
      cbv
      constructor
      · intro hlt
        have hpi : pi = (p : Int) := hpi
        have hlt' : p < xs.length := by rw [har] at hlt; simpa [arS, intC, hX, hpi] using hlt
        obtain ⟨x, hx⟩ : ∃ x, xs[p]? = some x := ⟨_, List.getElem?_eq_getElem hlt'⟩
        obtain ⟨y, hy⟩ : ∃ y, ys[p]? = some y := ⟨_, List.getElem?_eq_getElem (by omega)⟩
        obtain ⟨xv, hxv⟩ : ∃ xv, xv = u8s x := ⟨_, rfl⟩
        obtain ⟨yv, hyv⟩ : ∃ yv, yv = u8s y := ⟨_, rfl⟩
        cbv
        refine ⟨by rw [har]; kernel_rfl, ?_⟩
        have hpi : pi = (p : Int) := hpi
        refine ⟨[.r 32 xv], by omega, ?_, rfl, ?_⟩
        · rw [hX, hpi]; simp [hx, key, hxv]
        cbv
        have hpi : pi = (p : Int) := hpi
        refine ⟨[.r 32 yv], by omega, ?_, rfl, ?_⟩
        · rw [hY, hpi]; simp [hy, key, hyv]
        cbv
        have hpi : pi = (p : Int) := hpi
        have tx : xs.take (p + 1) = xs.take p ++ [x] := by rw [List.take_add_one, hx]; rfl
        have ty : ys.take (p + 1) = ys.take p ++ [y] := by rw [List.take_add_one, hy]; rfl
        refine ⟨fun _ => ⟨by rw [hxv]; exact ints_u8s x, by rw [hyv]; exact ints_u8s y⟩, fun hne2 => ?_, fun hne2 => ?_⟩
        · have hxy : (x == y) = false := by rw [har, hxv, hyv] at hne2; simpa [arS, eqVals_u8s] using hne2
          cbv
          have e : (xs == ys) = false := by
            rw [beq_eq_false_iff_ne]; intro e
            rw [e, hy] at hx
            cases hx
            simp at hxy
          rw [e] at hk
          exact hk
        · have hxy : x = y := by rw [har, hxv, hyv] at hne2; simpa [arS, eqVals_u8s] using hne2
          cbv
          refine ⟨⟨(p + 1, ar.ib .add .i64 pi 1), hlt', ?_, ?_⟩, ?_, ?_⟩
          · have hpi : pi = (p : Int) := hpi
            show ar.ib .add .i64 pi 1 = ((p + 1 : Nat) : Int)
            rw [har, hpi]; simp only [arS, intB]; rw [wrap_small (by omega)]; omega
          · show xs.take (p + 1) = ys.take (p + 1)
            rw [tx, ty, hsame, hxy]
          · dsimp only
            cbv
          · show xs.length - (p + 1) < xs.length - p
            omega
      · intro hge
        have hpi : pi = (p : Int) := hpi
        have hge' : p = xs.length := by rw [har] at hge; simp [arS, intC, hX, hpi] at hge; omega
        cbv
        have e : (xs == ys) = true := by
          rw [beq_iff_eq]
          rw [hge', List.take_length, List.take_of_length_le (by omega)] at hsame
          exact hsame
        rw [e] at hk
        exact hk
end Go.Eng
namespace Go.Eng
open Go Go.Proofs

set_option maxRecDepth 100000
theorem sameList_sound : Sound Try.prog 29 fun args k => ∃ (xs ys : List Ent) (s t : List (List PS)), args = [.s (.sl (xs.map Ent.row) s), .s (.sl (ys.map Ent.row) t)] ∧ xs.length ≤ 2 ^ 40 ∧ (∀ e ∈ xs, e.ks.length ≤ 2 ^ 40) ∧ k [.s (.v (.bool (xs.map Ent.core == ys.map Ent.core)))] := by
  refine Sound.of_body tt_ok ent_ok Try.func29 rfl ?_
  rintro ar har Γ hΓ args k ⟨xs, ys, s, t, rfl, hlen, hks, hk⟩
  obtain ⟨X, hX⟩ : ∃ X, X = xs.map Ent.row := ⟨_, rfl⟩
  obtain ⟨Y, hY⟩ : ∃ Y, Y = ys.map Ent.row := ⟨_, rfl⟩
  obtain ⟨res, hres⟩ : ∃ res, res = (xs.map Ent.core == ys.map Ent.core) := ⟨_, rfl⟩
  rw [← hX, ← hY]
  rw [← hres] at hk
  cbv
  constructor
  · intro h
    have hne : xs.length ≠ ys.length := by rw [har] at h; simp [arS, intC, hX, hY] at h; omega
    cbv
    have e : res = false := by
      rw [hres, beq_eq_false_iff_ne]; intro e; exact hne (by have := congrArg List.length e; simpa using this)
    rw [e] at hk
    exact hk
  · intro h
    have hne : xs.length = ys.length := by rw [har] at h; simp [arS, intC, hX, hY] at h; omega
    cbv
    refine .inr ⟨{ q : Nat × Int // q.1 ≤ xs.length ∧ q.2 = q.1 ∧ (xs.take q.1).map Ent.core = (ys.take q.1).map Ent.core }, fun q => ⟨mk 42 [(0, .s (.p (.sl X s))), (1, .s (.p (.sl Y t))), (5, pint q.1.2)], []⟩,
      fun q => xs.length - q.1.1, [], _, ⟨(0, 0), Nat.zero_le _, rfl, rfl⟩, rfl, ?_, ?_⟩
    · cbv
    · rintro ⟨⟨p, pi⟩, hq⟩
      have hp : p ≤ xs.length := hq.1
      have hpi : pi = (p : Int) := hq.2.1
      have hsame : (xs.take p).map Ent.core = (ys.take p).map Ent.core := hq.2.2
      dsimp only
      cbv
      constructor
      · intro hlt
        have hpi : pi = (p : Int) := hpi
        have hlt' : p < xs.length := by rw [har] at hlt; simpa [arS, intC, hX, hpi] using hlt
        obtain ⟨x, hx⟩ : ∃ x, xs[p]? = some x := ⟨_, List.getElem?_eq_getElem hlt'⟩
        obtain ⟨y, hy⟩ : ∃ y, ys[p]? = some y := ⟨_, List.getElem?_eq_getElem (by omega)⟩
        obtain ⟨xa, xk, xs1⟩ := x
        obtain ⟨ya, yk, ys1⟩ := y
        obtain ⟨xv, hxv⟩ : ∃ xv, xv = u8s xa := ⟨_, rfl⟩
        obtain ⟨yv, hyv⟩ : ∃ yv, yv = u8s ya := ⟨_, rfl⟩
        obtain ⟨xl, hxl⟩ : ∃ xl, xl = xk.map key := ⟨_, rfl⟩
        obtain ⟨yl, hyl⟩ : ∃ yl, yl = yk.map key := ⟨_, rfl⟩
        have rx : X[pi.toNat]? = some [.r 20 xv, .c (.sl xl xs1)] := by rw [hX, hpi]; simp [hx, Ent.row, hxv, hxl]
        have ry : Y[pi.toNat]? = some [.r 20 yv, .c (.sl yl ys1)] := by rw [hY, hpi]; simp [hy, Ent.row, hyv, hyl]
        cbv
        refine ⟨by rw [har]; kernel_rfl, ?_⟩
        have hpi : pi = (p : Int) := hpi
        refine ⟨_, by omega, rx, rfl, ?_⟩
        cbv
        have hpi : pi = (p : Int) := hpi
        refine ⟨_, by omega, ry, rfl, ?_⟩
        cbv
        have hpi : pi = (p : Int) := hpi
        have tx : xs.take (p + 1) = xs.take p ++ [⟨xa, xk, xs1⟩] := by rw [List.take_add_one, hx]; rfl
        have ty : ys.take (p + 1) = ys.take p ++ [⟨ya, yk, ys1⟩] := by rw [List.take_add_one, hy]; rfl
        refine ⟨fun _ => ⟨by rw [hxv]; exact ints_u8s xa, by rw [hyv]; exact ints_u8s ya⟩, fun hne2 => ?_, fun hne2 => ?_⟩
        · have hxy : xa = ya := by rw [har, hxv, hyv] at hne2; simpa [arS, eqVals_u8s] using hne2
          cbv
          have hpi : pi = (p : Int) := hpi
          refine ⟨_, by omega, rx, rfl, ?_⟩
          cbv
          have hpi : pi = (p : Int) := hpi
          refine ⟨_, by omega, ry, rfl, ?_⟩
          cbv
          refine call_by' hΓ sameKeys_sound ⟨xk, yk, xs1, ys1, by rw [hxl, hyl], hks _ (List.mem_of_getElem? hx), ?_⟩
          obtain ⟨kb, hkb⟩ : ∃ kb, kb = (xk == yk) := ⟨_, rfl⟩
          rw [← hkb]
          cbv
          refine ⟨fun hnb => ?_, fun hnb => ?_⟩
          · have hb : kb = false := by rw [har] at hnb; simpa [arS] using hnb
            cbv
            have e : res = false := by
              rw [hres, beq_eq_false_iff_ne]; intro e
              have h1 := congrArg (fun l => l[p]?) e
              simp [hx, hy, Ent.core] at h1
              rw [h1.2] at hkb
              simp [hb] at hkb
            rw [e] at hk
            exact hk
          · have hb : kb = true := by rw [har] at hnb; simpa [arS] using hnb
            have hkk : xk = yk := by rw [hb] at hkb; exact eq_of_beq hkb.symm
            cbv
            refine ⟨⟨(p + 1, ar.ib .add .i64 pi 1), hlt', ?_, ?_⟩, ?_, ?_⟩
            · have hpi : pi = (p : Int) := hpi
              show ar.ib .add .i64 pi 1 = ((p + 1 : Nat) : Int)
              rw [har, hpi]; simp only [arS, intB]; rw [wrap_small (by omega)]; omega
            · show (xs.take (p + 1)).map Ent.core = (ys.take (p + 1)).map Ent.core
              rw [tx, ty, List.map_append, List.map_append, hsame, hxy, hkk]; rfl
            · dsimp only
              cbv
            · show xs.length - (p + 1) < xs.length - p
              omega
        · have hxy : (xa == ya) = false := by rw [har, hxv, hyv] at hne2; simpa [arS, eqVals_u8s] using hne2
          cbv
          have e : res = false := by
            rw [hres, beq_eq_false_iff_ne]; intro e
            have h1 := congrArg (fun l => l[p]?) e
            simp [hx, hy, Ent.core] at h1
            rw [h1.1] at hxy
            simp at hxy
          rw [e] at hk
          exact hk
      · intro hge
        have hpi : pi = (p : Int) := hpi
        have hge' : p = xs.length := by rw [har] at hge; simp [arS, intC, hX, hpi] at hge; omega
        cbv
        have e : res = true := by
          rw [hres, beq_iff_eq]
          rw [hge', List.take_length, List.take_of_length_le (by omega)] at hsame
          exact hsame
        rw [e] at hk
        exact hk
end Go.Eng
namespace Go.Eng
open Go Go.Proofs

def mark20 : List Int := 195 :: List.replicate 19 0
def mark32 : List Int := 195 :: List.replicate 31 0
def Ent.trow (e : Ent) : List PS := [.r 20 (u8s e.a), .c (.sl (e.ks.map key) [key mark32])]
def endrow : List PS := [.r 20 (u8s mark20), .c (.sl [] [])]
def zero74 : List PS := [.r 20 (u8s (List.replicate 20 0)), .c (.sl [] [])]

def zero26 : List PS := [.r 32 (u8s (List.replicate 32 0))]

set_option maxRecDepth 100000
theorem twin_sound : Sound Try.prog 12 fun args k => ∃ (es : List Ent) (s : List (List PS)), args = [.s (.sl (es.map Ent.row) s)] ∧ es.length ≤ 2 ^ 40 ∧ (∀ e ∈ es, e.ks.length ≤ 2 ^ 40) ∧ k [.s (.sl (es.map Ent.trow) [endrow])] := by
  refine Sound.of_body tt_ok ent_ok Try.func12 rfl ?_
  rintro ar har Γ hΓ args k ⟨es, s, rfl, hlen, hks, hk⟩
  obtain ⟨X, hX⟩ : ∃ X, X = es.map Ent.row := ⟨_, rfl⟩
  obtain ⟨N, hN⟩ : ∃ N, N = es.length := ⟨_, rfl⟩
  rw [← hX]
  cbv
  refine ⟨N + 1, fun _ => ⟨?_, ?_, ?_, ?_⟩, ?_⟩
  · rw [har]; simp only [arS, intB]; rw [wrap_small (by rw [hX, List.length_map]; omega), hX, List.length_map, hN]; rfl
  · rw [har]; simp only [arS, intB]; rw [wrap_small (by rw [hX, List.length_map]; omega), hX, List.length_map, hN]; rfl
  · have e : (tt 67).bytes = 48 := rfl
    rw [e]; omega
  · simp only [maxLen]; omega
  cbv
  refine .inr ⟨{ q : Nat × Int × List (List PS) // q.1 ≤ es.length ∧ q.2.1 = q.1 ∧ q.2.2 = (es.take q.1).map Ent.trow ++ List.replicate (es.length + 1 - q.1) zero74 },
    fun q => ⟨mk 67 [(0, .s (.p (.sl X s))), (3, .s (.own 0)), (4, pint q.1.2.1)], [.arr q.1.2.2 67 21 48 true]⟩,
    fun q => es.length - q.1.1, [], _, ⟨(0, 0, ar.rep (N + 1) zero74), Nat.zero_le _, rfl, by rw [har, hN]; simp [arS]⟩, rfl, ?_, ?_⟩
  · cbv
  · rintro ⟨⟨p, pi, D⟩, hq⟩
    have hp : p ≤ es.length := hq.1
    have hpi : pi = (p : Int) := hq.2.1
    have hD : D = (es.take p).map Ent.trow ++ List.replicate (es.length + 1 - p) zero74 := hq.2.2
    dsimp only
    cbv
    constructor
    · intro hlt
      have hpi : pi = (p : Int) := hpi
      have hlt' : p < es.length := by rw [har] at hlt; simpa [arS, intC, hX, hpi] using hlt
      obtain ⟨e, hx⟩ : ∃ e, es[p]? = some e := ⟨_, List.getElem?_eq_getElem hlt'⟩
      obtain ⟨ea, ek, es1⟩ := e
      have hekl : ek.length ≤ 2 ^ 40 := hks _ (List.mem_of_getElem? hx)
      obtain ⟨xv, hxv⟩ : ∃ xv, xv = u8s ea := ⟨_, rfl⟩
      obtain ⟨xl, hxl⟩ : ∃ xl, xl = ek.map key := ⟨_, rfl⟩
      have rx : X[pi.toNat]? = some [.r 20 xv, .c (.sl xl es1)] := by rw [hX, hpi]; simp [hx, Ent.row, hxv, hxl]
      cbv
      have hpi : pi = (p : Int) := hpi
      refine ⟨_, by omega, rx, rfl, ?_⟩
      cbv
      obtain ⟨n, hn⟩ : ∃ n, n = ek.length := ⟨_, rfl⟩
      have eL : ar.ib .add .i64 (ar.len xl) 1 = ((n + 1 : Nat) : Int) := by
        rw [har, hn]; simp only [arS, intB]; rw [wrap_small (by rw [hxl, List.length_map]; omega), hxl, List.length_map]; rfl
      refine ⟨n + 1, fun _ => ⟨eL, eL, ?_, ?_⟩, ?_⟩
      · have e : (tt 69).bytes = 32 := rfl
        rw [e]; omega
      · simp only [maxLen]; omega
      cbv
      have hpi : pi = (p : Int) := hpi
      refine ⟨_, by omega, rx, rfl, ?_⟩
      cbv
      refine ⟨fun _ y hy => ?_, ?_⟩
      · rw [hxl, List.mem_map] at hy
        obtain ⟨w, _, rfl⟩ := hy
        rfl
      cbv
      have hpi : pi = (p : Int) := hpi
      refine ⟨_, by omega, rx, rfl, ?_⟩
      cbv
      have hxll : xl.length = n := by rw [hxl, List.length_map, hn]
      have hnat : ∀ q : Nat, ar.nat (q : Int) = q := fun q => by rw [har]; exact Int.toNat_natCast q
      have hlenx : ar.len xl = (n : Int) := by rw [har]; show (xl.length : Int) = n; rw [hxll]
      have eK : ar.cpy (ar.rep (n + 1) zero26) xl = xl ++ [zero26] := by
        rw [har]; show xl.take (List.replicate (n + 1) zero26).length ++ (List.replicate (n + 1) zero26).drop xl.length = _
        rw [List.length_replicate, List.take_of_length_le (by rw [hxll]; omega), List.drop_replicate, hxll, Nat.add_sub_cancel_left]; rfl
      have hlenK : (ar.cpy (ar.rep (n + 1) zero26) xl).length = n + 1 := by rw [eK]; simp [hxll]
      have hpi : pi = (p : Int) := hpi
      refine ⟨fun _ => ?_, fun _ => ?_, by rw [har]; kernel_rfl, _, by omega, rx, rfl, ?_⟩
      · have h2 : 0 ≤ ar.len xl ∧ ar.len xl < ((ar.cpy (ar.rep (n + 1) zero26) xl).length : Int) := by
          have hlenx : ar.len xl = (n : Int) := hlenx
          rw [hlenx, hlenK]; omega
        exact h2
      · have h2 : ar.nat (ar.len xl) < (ar.cpy (ar.rep (n + 1) zero26) xl).length := by
          have hlenx : ar.len xl = (n : Int) := hlenx
          rw [hlenx, hlenK, hnat]; omega
        exact ⟨h2, rfl⟩
      cbv
      have hpi : pi = (p : Int) := hpi
      refine ⟨_, by omega, rx, rfl, ?_⟩
      cbv
      have hlenK2 : (ar.setx (ar.cpy (ar.rep (n + 1) zero26) xl) (ar.nat (ar.len xl)) (key mark32)).length = n + 1 := by
        rw [har]; show (List.set _ _ _).length = _; rw [List.length_set, ← har, hlenK]
      have hDl : D.length = N + 1 := by rw [hD, hN]; simp; omega
      have hlenx : ar.len xl = (n : Int) := hlenx
      have hnat : ∀ q : Nat, ar.nat (q : Int) = q := hnat
      have tk : es.take (p + 1) = es.take p ++ [⟨ea, ek, es1⟩] := by rw [List.take_add_one, hx]; rfl
      have hpi : pi = (p : Int) := hpi
      refine ⟨fun _ => ?_, fun _ => ?_, fun _ => ?_, ?_⟩
      · have h2 : 0 ≤ ar.len xl ∧ ar.len xl ≤ (((ar.setx (ar.cpy (ar.rep (n + 1) zero26) xl) (ar.nat (ar.len xl)) (key mark32)).length + 0 : Nat) : Int) := by
          rw [hlenK2, hlenx]; omega
        exact h2
      · show 0 ≤ pi ∧ pi < (D.length : Int)
        rw [hDl, hN]; omega
      · have h2 : ar.nat pi < D.length := by rw [hpi, hnat, hDl, hN]; omega
        exact ⟨h2, rfl⟩
      refine ⟨⟨(p + 1, ar.ib .add .i64 pi 1, ar.setx D (ar.nat pi) [.r 20 xv, .c (.sl (ar.mid (ar.setx (ar.cpy (ar.rep (n + 1) zero26) xl) (ar.nat (ar.len xl)) (key mark32)) 0 (ar.nat (ar.len xl))) (ar.frm (ar.setx (ar.cpy (ar.rep (n + 1) zero26) xl) (ar.nat (ar.len xl)) (key mark32)) (ar.nat (ar.len xl))))]), hlt', ?_, ?_⟩, ?_, ?_⟩
      · have hpi : pi = (p : Int) := hpi
        show ar.ib .add .i64 pi 1 = ((p + 1 : Nat) : Int)
        rw [har, hpi]; simp only [arS, intB]; rw [wrap_small (by omega)]; omega
      · dsimp only
        have e1 : ar.setx (ar.cpy (ar.rep (n + 1) zero26) xl) (ar.nat (ar.len xl)) (key mark32) = xl ++ [key mark32] := by
          rw [eK, hlenx, hnat, har]; show List.set _ _ _ = _
          rw [List.set_append_right _ _ (by omega), hxll]; simp
        rw [e1, hlenx, hnat, hpi, hnat, hD, har]
        show List.set _ _ [PS.r 20 xv, PS.c (.sl (((xl ++ [key mark32]).take n).drop 0) ((xl ++ [key mark32]).drop n))] = _
        rw [← hxll, List.take_left, List.drop_left, List.drop_zero, tk, List.map_append, List.set_append_right _ _ (by simp; omega)]
        have e2 : es.length + 1 - p = (es.length + 1 - (p + 1)) + 1 := by omega
        rw [e2, List.replicate_succ]
        simp [Ent.trow, hxv, hxl, Nat.min_eq_left hp]
      · dsimp only
        cbv
      · show es.length - (p + 1) < es.length - p
        omega
    · intro hge
      have hpi : pi = (p : Int) := hpi
      have hge' : p = es.length := by rw [har] at hge; simp [arS, intC, hX, hpi] at hge; omega
      cbv
      have hnat : ∀ q : Nat, ar.nat (q : Int) = q := fun q => by rw [har]; exact Int.toNat_natCast q
      have hlenx : ar.len X = (N : Int) := by rw [har]; show (X.length : Int) = N; rw [hX, List.length_map, hN]
      have hD2 : D = es.map Ent.trow ++ [zero74] := by rw [hD, hge', List.take_length, Nat.add_sub_cancel_left]; rfl
      have hDl : D.length = N + 1 := by rw [hD2, hN]; simp
      have eF : ar.setx D (ar.nat (ar.len X)) endrow = es.map Ent.trow ++ [endrow] := by
        rw [hlenx, hnat, hD2, har]; show List.set _ _ _ = _
        rw [List.set_append_right _ _ (by simp [hN]), List.length_map, hN]; simp
      refine ⟨fun _ => ?_, fun _ => ?_, fun _ => ?_, ?_⟩
      · show 0 ≤ ar.len X ∧ ar.len X < (D.length : Int)
        rw [hDl, hlenx]; omega
      · have h2 : ar.nat (ar.len X) < D.length := by rw [hlenx, hnat, hDl]; omega
        exact ⟨h2, rfl⟩
      · have h2 : 0 ≤ ar.len X ∧ ar.len X ≤ (((ar.setx D (ar.nat (ar.len X)) endrow).length + 0 : Nat) : Int) := by
          rw [eF, hlenx]; simp [hN]; omega
        exact h2
      · have e2 : k [.s (.sl (ar.mid (ar.setx D (ar.nat (ar.len X)) endrow) 0 (ar.nat (ar.len X))) (ar.frm (ar.setx D (ar.nat (ar.len X)) endrow) (ar.nat (ar.len X))))] := by
          rw [eF, hlenx, hnat, har]
          show k [PR.s (.sl (((es.map Ent.trow ++ [endrow]).take N).drop 0) ((es.map Ent.trow ++ [endrow]).drop N))]
          have hl : N = (es.map Ent.trow).length := by rw [List.length_map, hN]
          rw [hl, List.take_left, List.drop_left, List.drop_zero]
          exact hk
        exact e2
end Go.Eng
