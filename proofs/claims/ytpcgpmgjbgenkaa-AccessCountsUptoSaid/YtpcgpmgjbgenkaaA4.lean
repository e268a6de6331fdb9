/-
  Both Counts tell the number of entries and, wrapped, that of keys. Condition: at most 2^40 entries.
-/
import Derived.Test.YtpcgpmgjbgenkaaA0
namespace Go.Eng
open Go Go.Proofs

def total : List Ent → Int
  | [] => 0
  | x :: l => x.ks.length + total l
theorem total_snoc (l : List Ent) (x : Ent) : total (l ++ [x]) = total l + x.ks.length := by
  induction l with
  | nil => simp [total]
  | cons y l ih => simp only [List.cons_append, total, ih]; omega

set_option maxRecDepth 100000
def CountC (args : List PR) (k : List PR → Prop) : Prop := ∃ (es : List Ent) (s : List (List PS)), args = [.s (.sl (es.map Ent.row) s)] ∧ es.length ≤ 2 ^ 40 ∧ k [.s (.v (.int .i64 es.length)), .s (.v (.int .i64 (IntKind.i64.wrap (total es))))]
theorem count_sound : Sound Try.prog 11 CountC := by
  refine Sound.of_body tt_ok ent_ok Try.func11 rfl ?_
  rintro ar har Γ hΓ args k ⟨es, s, rfl, hlen, hk⟩
  obtain ⟨xs, hxs⟩ : ∃ xs, xs = es.map Ent.row := ⟨_, rfl⟩
  rw [← hxs]
  cbv
  refine ⟨{ q : Nat × Int × Int // q.1 ≤ es.length ∧ q.2.1 = q.1 ∧ q.2.2 = IntKind.i64.wrap (total (es.take q.1)) }, fun q => ⟨mk 21 [(0, .s (.p (.sl xs s))), (3, pint q.1.2.2), (6, .s (.p (.sl xs s))), (7, pint (ar.len xs)), (8, pint q.1.2.1)], []⟩,
    fun q => es.length - q.1.1, [], _, ⟨(0, 0, 0), Nat.zero_le _, rfl, rfl⟩, rfl, ?_, ?_⟩
  · cbv
  · rintro ⟨⟨p, pi, sum⟩, hq⟩
    have hp : p ≤ es.length := hq.1
    have hpi : pi = (p : Int) := hq.2.1
    have hsum : sum = IntKind.i64.wrap (total (es.take p)) := hq.2.2
    dsimp only
    cbv
    constructor
    · intro hlt
      have hpi : pi = (p : Int) := hpi
      have hlt' : p < es.length := by rw [har] at hlt; simpa [arS, intC, hxs, hpi] using hlt
      obtain ⟨e, hx⟩ : ∃ e, es[p]? = some e := ⟨_, List.getElem?_eq_getElem hlt'⟩
      obtain ⟨ea, ek, es1⟩ := e
      obtain ⟨xv, hxv⟩ : ∃ xv, xv = u8s ea := ⟨_, rfl⟩
      obtain ⟨xl, hxl⟩ : ∃ xl, xl = ek.map key := ⟨_, rfl⟩
      have rx : xs[pi.toNat]? = some [.r 20 xv, .c (.sl xl es1)] := by rw [hxs, hpi]; simp [hx, Ent.row, hxv, hxl]
      cbv
      have hpi : pi = (p : Int) := hpi
      refine ⟨_, by omega, rx, rfl, ?_⟩
      cbv
      refine ⟨⟨(p + 1, ar.ib .add .i64 pi 1, ar.ib .add .i64 sum (ar.len xl)), hlt', ?_, ?_⟩, ?_, ?_⟩
      · have hpi : pi = (p : Int) := hpi
        show ar.ib .add .i64 pi 1 = ((p + 1 : Nat) : Int)
        rw [har, hpi]; simp only [arS, intB]; rw [wrap_small (by omega)]; omega
      · show ar.ib .add .i64 sum (ar.len xl) = IntKind.i64.wrap (total (es.take (p + 1)))
        rw [har, hsum]; simp only [arS, intB]
        rw [wrap_add, List.take_add_one, hx]; simp [total_snoc, hxl]
      · dsimp only
        cbv
      · show es.length - (p + 1) < es.length - p
        omega
    · intro hge
      have hpi : pi = (p : Int) := hpi
      have hge' : p = es.length := by rw [har] at hge; simp [arS, intC, hxs, hpi] at hge; omega
      cbv
      have e1 : ar.len xs = (es.length : Int) := by rw [har]; simp [arS, hxs]
      have e2 : sum = IntKind.i64.wrap (total es) := by rw [hsum, hge', List.take_length]
      show k [.s (.v (.int .i64 (ar.len xs))), .s (.v (.int .i64 sum))]
      rw [e1, e2]; exact hk

theorem refCount_sound : Sound Try.prog 13 CountC := by
  refine Sound.of_body tt_ok ent_ok Try.func13 rfl ?_
  rintro ar har Γ hΓ args k ⟨es, s, rfl, hlen, hk⟩
  obtain ⟨xs, hxs⟩ : ∃ xs, xs = es.map Ent.row := ⟨_, rfl⟩
  rw [← hxs]
  cbv
  refine ⟨{ q : Nat × Int × Int // q.1 ≤ es.length ∧ q.2.1 = q.1 ∧ q.2.2 = IntKind.i64.wrap (total (es.take q.1)) }, fun q => ⟨mk 23 [(0, .s (.p (.sl xs s))), (4, pint q.1.2.2), (5, pint q.1.2.1)], []⟩,
    fun q => es.length - q.1.1, [], _, ⟨(0, 0, 0), Nat.zero_le _, rfl, rfl⟩, rfl, ?_, ?_⟩
  · cbv
  · rintro ⟨⟨p, pi, sum⟩, hq⟩
    have hp : p ≤ es.length := hq.1
    have hpi : pi = (p : Int) := hq.2.1
    have hsum : sum = IntKind.i64.wrap (total (es.take p)) := hq.2.2
    dsimp only
    cbv
    constructor
    · intro hlt
      have hpi : pi = (p : Int) := hpi
      have hlt' : p < es.length := by rw [har] at hlt; simpa [arS, intC, hxs, hpi] using hlt
      obtain ⟨e, hx⟩ : ∃ e, es[p]? = some e := ⟨_, List.getElem?_eq_getElem hlt'⟩
      obtain ⟨ea, ek, es1⟩ := e
      obtain ⟨xv, hxv⟩ : ∃ xv, xv = u8s ea := ⟨_, rfl⟩
      obtain ⟨xl, hxl⟩ : ∃ xl, xl = ek.map key := ⟨_, rfl⟩
      have rx : xs[pi.toNat]? = some [.r 20 xv, .c (.sl xl es1)] := by rw [hxs, hpi]; simp [hx, Ent.row, hxv, hxl]
      cbv
      have hpi : pi = (p : Int) := hpi
      refine ⟨_, by omega, rx, rfl, ?_⟩
      cbv
      refine ⟨⟨(p + 1, ar.ib .add .i64 pi 1, ar.ib .add .i64 sum (ar.len xl)), hlt', ?_, ?_⟩, ?_, ?_⟩
      · have hpi : pi = (p : Int) := hpi
        show ar.ib .add .i64 pi 1 = ((p + 1 : Nat) : Int)
        rw [har, hpi]; simp only [arS, intB]; rw [wrap_small (by omega)]; omega
      · show ar.ib .add .i64 sum (ar.len xl) = IntKind.i64.wrap (total (es.take (p + 1)))
        rw [har, hsum]; simp only [arS, intB]
        rw [wrap_add, List.take_add_one, hx]; simp [total_snoc, hxl]
      · dsimp only
        cbv
      · show es.length - (p + 1) < es.length - p
        omega
    · intro hge
      have hpi : pi = (p : Int) := hpi
      have hge' : p = es.length := by rw [har] at hge; simp [arS, intC, hxs, hpi] at hge; omega
      cbv
      have e1 : ar.len xs = (es.length : Int) := by rw [har]; simp [arS, hxs]
      have e2 : sum = IntKind.i64.wrap (total es) := by rw [hsum, hge', List.take_length]
      show k [.s (.v (.int .i64 (ar.len xs))), .s (.v (.int .i64 sum))]
      rw [e1, e2]; exact hk
end Go.Eng
