import Derived.Test.YtgihmigiecfmaaaDoorRC
import Derived.Test.YtgihmigiecfmaaaDoorUA
import Derived.Test.YtgihmigiecfmaaaDoorRE
namespace Go.Eng
open Go Go.Proofs
set_option maxRecDepth 100000
set_option maxHeartbeats 4000000
set_option linter.unusedVariables false
def irow (x : Int) : List PS := [.c (.v (.int .i64 x))]
def txFs (ty : Int) : List Int :=
 if ty = 0 then [1, 2, 5, 6, 7, 8, 13, 14, 15] else if ty = 1 then [0, 1, 2, 5, 6, 7, 8, 9, 13, 14, 15] else if ty = 2 then [0, 1, 3, 4, 5, 6, 7, 8, 9, 13, 14, 15] else if ty = 3 then [0, 1, 3, 4, 5, 6, 7, 8, 9, 10, 11, 13, 14, 15] else [0, 1, 3, 4, 5, 6, 7, 8, 9, 12, 13, 14, 15]
theorem rowOf_sound : Sound Tryd.prog 21 fun args k => ∃ ty : Int, args = [.s (.v (.int .i64 ty))] ∧ k [.s (.sl ((txFs ty).map irow) [])] := by
 refine Sound.of_body tt_ok ent_ok Tryd.func21 rfl ?_
 rintro ar har Γ hΓ args k ⟨ty, hargs, hk⟩
 subst hargs
 conv => cbv
 refine ⟨fun h => ?_, fun h => ?_⟩
 ·have g := cEq har (a := ty) (b := 0) h
  rw [txFs, if_pos g] at hk
  conv => cbv
  exact hk
 have g0 := cNeq har (a := ty) (b := 0) h
 conv => cbv
 refine ⟨fun h => ?_, fun h => ?_⟩
 ·have g := cEq har (a := ty) (b := 1) h
  rw [txFs, if_neg g0, if_pos g] at hk
  conv => cbv
  exact hk
 have g1 := cNeq har (a := ty) (b := 1) h
 conv => cbv
 refine ⟨fun h => ?_, fun h => ?_⟩
 ·have g := cEq har (a := ty) (b := 2) h
  rw [txFs, if_neg g0, if_neg g1, if_pos g] at hk
  conv => cbv
  exact hk
 have g2 := cNeq har (a := ty) (b := 2) h
 conv => cbv
 refine ⟨fun h => ?_, fun h => ?_⟩
 ·have g := cEq har (a := ty) (b := 3) h
  rw [txFs, if_neg g0, if_neg g1, if_neg g2, if_pos g] at hk
  conv => cbv
  exact hk
 have g3 := cNeq har (a := ty) (b := 3) h
 rw [txFs, if_neg g0, if_neg g1, if_neg g2, if_neg g3] at hk
 conv => cbv
 exact hk
theorem index_sound : Sound Tryd.prog 76 fun args k => ∃ (l : List Int) (f : Int) (s : List (List PS)), args = [.s (.sl (l.map irow) s), .s (.v (.int .i64 f))] ∧ l.length ≤ 2 ^ 40 ∧ ∀ z : Int, (0 ≤ z ↔ f ∈ l) → k [.s (.v (.int .i64 z))] := by
 refine Sound.of_body tt_ok ent_ok Tryd.func76 rfl ?_
 rintro ar har Γ hΓ args k ⟨l, f, s, hargs, hl, hk⟩
 obtain ⟨X, hX⟩ : ∃ X, X = l.map irow := ⟨_, rfl⟩
 have hXl : ar.len X = (l.length : Int) := by rw [lenIs har, hX, List.length_map]
 rw [← hX] at hargs
 subst hargs
 conv => cbv
 refine .inr ⟨{ q : Nat × Int // q.1 ≤ l.length ∧ q.2 = q.1 ∧ f ∉ l.take q.1 },
  fun q => ⟨mk 19 [(0, .s (.p (.sl X s))), (1, pint f), (4, .s (.lit .i64 0)), (7, pint (ar.len X)), (8, pint q.1.2)], []⟩,
  fun q => l.length - q.1.1, [], _, ⟨(0, 0), Nat.zero_le _, rfl, by simp⟩, rfl, ?_, ?_⟩
 ·conv => cbv
  simp
 ·rintro ⟨⟨p, pi⟩, hq⟩
  have hp : p ≤ l.length := hq.1
  have hpi : pi = (p : Int) := hq.2.1
  have hno : f ∉ l.take p := hq.2.2
  dsimp only
  conv => cbv
  refine ⟨fun h => ?_, fun h => ?_⟩
  ·have g := cLt har (b := ar.len X) h
   have hlt : p < l.length := by omega
   obtain ⟨x, hx⟩ : ∃ x, l[p]? = some x := ⟨_, List.getElem?_eq_getElem hlt⟩
   have rx : X[pi.toNat]? = some [.c (.v (.int .i64 x))] := by rw [hX, hpi]; simp [hx, irow]
   conv => cbv
   refine ⟨_, by omega, rx, rfl, ?_⟩
   conv => cbv
   refine ⟨fun h2 => ?_, fun h2 => ?_⟩
   ·have h3 := cEq har (a := f) (b := x) h2
    have hk := hk pi ⟨fun _ => by rw [h3]; exact List.mem_of_getElem? hx, fun _ => by omega⟩
    conv => cbv
    exact hk
   ·have h3 := cNeq har (a := f) (b := x) h2
    have hno2 : f ∉ l.take (p + 1) := by rw [take_succ_get hx, List.mem_append, List.mem_singleton]; rintro (h | h); exact hno h; exact h3 h
    conv => cbv
    refine ⟨⟨(p + 1, ar.ib .add .i64 pi 1), hlt, iSucc har hpi (by omega), hno2⟩, ?_, ?_⟩
    ·dsimp only
     conv => cbv
     simp
    ·show l.length - (p + 1) < l.length - p
     omega
  ·have g := cNlt har (b := ar.len X) h
   have hpe : p = l.length := by omega
   have hk := hk (-1) ⟨fun h => by omega, fun h => by rw [hpe, List.take_length] at hno; exact absurd h hno⟩
   conv => cbv
   exact hk
theorem contains_sound : Sound Tryd.prog 53 fun args k => ∃ (l : List Int) (f : Int) (s : List (List PS)), args = [.s (.sl (l.map irow) s), .s (.v (.int .i64 f))] ∧ l.length ≤ 2 ^ 40 ∧ k [.s (.v (.bool (decide (f ∈ l))))] := by
 refine Sound.of_body tt_ok ent_ok Tryd.func53 rfl ?_
 rintro ar har Γ hΓ args k ⟨l, f, s, hargs, hl, hk⟩
 obtain ⟨X, hX⟩ : ∃ X, X = l.map irow := ⟨_, rfl⟩
 have callI : ∀ (Γ : Ctx) (d' : Nat) (k : List PR → Prop) (R : Prop), Γ = ctx Tryd.prog d' → (∀ z : Int, (0 ≤ z ↔ f ∈ l) → k [.s (.v (.int .i64 z))]) → Γ.g 76 [.s (.sl X s), .s (.v (.int .i64 f))] k ∨ R := fun Γ d' k R hΓ hk => call_by hΓ index_sound ⟨l, f, s, by rw [hX], hl, hk⟩
 rw [← hX] at hargs
 have hk : ∀ z : Int, (0 ≤ z ↔ f ∈ l) → k [.s (.v (.bool (ar.cb .geq z 0)))] := fun z hz => by
  have e : ar.cb .geq z 0 = decide (f ∈ l) := by
   rw [cIs har, Bool.eq_iff_iff, decide_eq_true_iff, ← hz]
   simp [intC]
  rw [e]; exact hk
 clear hX
 subst hargs
 conv => cbv
 refine callI _ _ _ _ hΓ fun z hz => ?_
 have hk := hk z hz
 conv => cbv
 exact hk
theorem noBlob_sound : Sound Tryd.prog 56 fun args k => ∃ w : List Int, args = [.a (key w)] ∧ w.length = 32 ∧ k [.s (.v (.bool (decide (w.getD 0 0 ≠ 1))))] := by
 refine Sound.of_body tt_ok ent_ok Tryd.func56 rfl ?_
 rintro ar har Γ hΓ args k ⟨w, hargs, hl, hk⟩
 obtain ⟨w0, wt, rfl⟩ : ∃ w0 wt, w = w0 :: wt := by
  cases w with
  | nil => cases hl
  | cons a b => exact ⟨a, b, rfl⟩
 obtain ⟨V, hV⟩ : ∃ V, V = u8s wt := ⟨_, rfl⟩
 have hrow : key (w0 :: wt) = [.r 32 (.int .u8 w0 :: V)] := by rw [hV]; rfl
 have e : ar.cb .neq w0 1 = decide ((w0 :: wt).getD 0 0 ≠ 1) := by
  rw [cIs har, Bool.eq_iff_iff, decide_eq_true_iff]
  simp [intC]
 rw [← e] at hk
 rw [hrow] at hargs
 subst hargs
 conv => cbv
 exact hk
theorem wide_sound : Sound Tryd.prog 35 fun args k => ∃ u : Au, args = [.a u.row] ∧ k [.s (.v (.bool (decide (255 < u.pa))))] := by
 refine Sound.of_body tt_ok ent_ok Tryd.func35 rfl ?_
 rintro ar har Γ hΓ args k ⟨⟨ch, a, no, pa, r, s⟩, hargs, hk⟩
 obtain ⟨x1, h1⟩ : ∃ x, x = w4 ch := ⟨_, rfl⟩
 obtain ⟨x2, h2⟩ : ∃ x, x = u8s a := ⟨_, rfl⟩
 obtain ⟨x3, h3⟩ : ∃ x : Int, x = (no : Int) := ⟨_, rfl⟩
 obtain ⟨x4, h4⟩ : ∃ x : Int, x = (pa : Int) := ⟨_, rfl⟩
 obtain ⟨x5, h5⟩ : ∃ x, x = w4 r := ⟨_, rfl⟩
 obtain ⟨x6, h6⟩ : ∃ x, x = w4 s := ⟨_, rfl⟩
 have hrow : (Au.mk ch a no pa r s).row = [.r 4 x1, .r 20 x2, .c (.v (.int .u64 x3)), .c (.v (.int .u64 x4)), .r 4 x5, .r 4 x6] := by rw [h1, h2, h3, h4, h5, h6]; rfl
 have e : ar.cb .gtr x4 255 = decide (255 < pa) := by
  rw [cIs har, Bool.eq_iff_iff, decide_eq_true_iff, h4]
  simp [intC]; omega
 rw [hrow] at hargs
 have hk : k [.s (.v (.bool (ar.cb .gtr x4 255)))] := by rw [e]; exact hk
 clear h1 h2 h3 h4 h5 h6 hrow e
 subst hargs
 conv => cbv
 exact hk
theorem hashIdxF_sound : Sound Tryd.prog 77 fun args k => ∃ (l : List (List Int)) (s : List (List PS)), args = [.s (.sl (l.map key) s), .s (.v (.func (.func 56) #[] #[]))] ∧ l.length ≤ 2 ^ 40 ∧ (∀ x ∈ l, x.length = 32) ∧ ∀ z : Int, (0 ≤ z ↔ ∃ x ∈ l, x.getD 0 0 ≠ 1) → k [.s (.v (.int .i64 z))] := by
 refine Sound.of_body tt_ok ent_ok Tryd.func77 rfl ?_
 rintro ar har Γ hΓ args k ⟨l, s, hargs, hl, hok, hk⟩
 obtain ⟨X, hX⟩ : ∃ X, X = l.map key := ⟨_, rfl⟩
 have hXl : ar.len X = (l.length : Int) := by rw [lenIs har, hX, List.length_map]
 rw [← hX] at hargs
 subst hargs
 conv => cbv
 refine .inr ⟨{ q : Nat × Int // q.1 ≤ l.length ∧ q.2 = q.1 ∧ ¬ ∃ x ∈ l.take q.1, x.getD 0 0 ≠ 1 },
  fun q => ⟨mk 19 [(0, .s (.p (.sl X s))), (1, .s (.p (.v (.func (.func 56) #[] #[])))), (4, .s (.lit .i64 0)), (7, pint (ar.len X)), (8, pint q.1.2)], []⟩,
  fun q => l.length - q.1.1, [], _, ⟨(0, 0), Nat.zero_le _, rfl, by simp⟩, rfl, ?_, ?_⟩
 ·conv => cbv
  simp
 ·rintro ⟨⟨p, pi⟩, hq⟩
  have hp : p ≤ l.length := hq.1
  have hpi : pi = (p : Int) := hq.2.1
  have hno : ¬ ∃ x ∈ l.take p, x.getD 0 0 ≠ 1 := hq.2.2
  dsimp only
  conv => cbv
  refine ⟨fun h => ?_, fun h => ?_⟩
  ·have g := cLt har (b := ar.len X) h
   have hlt : p < l.length := by omega
   obtain ⟨x, hx⟩ : ∃ x, l[p]? = some x := ⟨_, List.getElem?_eq_getElem hlt⟩
   have hxo := hok x (List.mem_of_getElem? hx)
   obtain ⟨b, hb⟩ : ∃ b : Bool, b = decide (x.getD 0 0 ≠ 1) := ⟨_, rfl⟩
   obtain ⟨V, hV⟩ : ∃ V, V = u8s x := ⟨_, rfl⟩
   have hrow : key x = [.r 32 V] := by rw [hV]; rfl
   have rx : X[pi.toNat]? = some [.r 32 V] := by rw [hX, hpi]; simp [hx, hrow]
   have callF : ∀ (Γ : Ctx) (d' : Nat) (k : List PR → Prop) (R : Prop), Γ = ctx Tryd.prog d' → k [.s (.v (.bool b))] → Γ.g 56 [.a [.r 32 V]] k ∨ R := fun Γ d' k R hΓ hk => call_by hΓ noBlob_sound ⟨x, by rw [hrow], hxo, by rw [← hb]; exact hk⟩
   conv => cbv
   refine ⟨_, by omega, rx, rfl, ?_⟩
   conv => cbv
   refine callF _ _ _ _ hΓ ?_
   conv => cbv
   refine ⟨fun h2 => ?_, fun h2 => ?_⟩
   ·rw [h2] at hb
    have hk := hk pi ⟨fun _ => ⟨_, List.mem_of_getElem? hx, of_decide_eq_true hb.symm⟩, fun _ => by omega⟩
    conv => cbv
    exact hk
   ·rw [h2] at hb
    have hno2 : ¬ ∃ x ∈ l.take (p + 1), x.getD 0 0 ≠ 1 := by
     rintro ⟨y, hy, hP⟩
     rw [take_succ_get hx, List.mem_append, List.mem_singleton] at hy
     rcases hy with hy | rfl
     ·exact hno ⟨y, hy, hP⟩
     ·exact of_decide_eq_false hb.symm hP
    conv => cbv
    refine ⟨⟨(p + 1, ar.ib .add .i64 pi 1), hlt, iSucc har hpi (by omega), hno2⟩, ?_, ?_⟩
    ·dsimp only
     conv => cbv
     simp
    ·show l.length - (p + 1) < l.length - p
     omega
  ·have g := cNlt har (b := ar.len X) h
   have hpe : p = l.length := by omega
   have hk := hk (-1) ⟨fun h => by omega, fun h => by rw [hpe, List.take_length] at hno; exact absurd h hno⟩
   conv => cbv
   exact hk
theorem hashConF_sound : Sound Tryd.prog 55 fun args k => ∃ (l : List (List Int)) (s : List (List PS)), args = [.s (.sl (l.map key) s), .s (.v (.func (.func 56) #[] #[]))] ∧ l.length ≤ 2 ^ 40 ∧ (∀ x ∈ l, x.length = 32) ∧ k [.s (.v (.bool (l.any fun x => decide (x.getD 0 0 ≠ 1))))] := by
 refine Sound.of_body tt_ok ent_ok Tryd.func55 rfl ?_
 rintro ar har Γ hΓ args k ⟨l, s, hargs, hl, hok, hk⟩
 obtain ⟨X, hX⟩ : ∃ X, X = l.map key := ⟨_, rfl⟩
 have callI : ∀ (Γ : Ctx) (d' : Nat) (k : List PR → Prop) (R : Prop), Γ = ctx Tryd.prog d' → (∀ z : Int, (0 ≤ z ↔ ∃ x ∈ l, x.getD 0 0 ≠ 1) → k [.s (.v (.int .i64 z))]) → Γ.g 77 [.s (.sl X s), .s (.v (.func (.func 56) #[] #[]))] k ∨ R := fun Γ d' k R hΓ hk => call_by hΓ hashIdxF_sound ⟨l, s, by rw [hX], hl, hok, hk⟩
 rw [← hX] at hargs
 have hk : ∀ z : Int, (0 ≤ z ↔ ∃ x ∈ l, x.getD 0 0 ≠ 1) → k [.s (.v (.bool (ar.cb .geq z 0)))] := fun z hz => by
  have e : ar.cb .geq z 0 = l.any fun x => decide (x.getD 0 0 ≠ 1) := by
   rw [cIs har, Bool.eq_iff_iff, List.any_eq_true]
   simp only [decide_eq_true_eq]
   rw [← hz]
   simp [intC]
  rw [e]; exact hk
 clear hX
 subst hargs
 conv => cbv
 refine callI _ _ _ _ hΓ fun z hz => ?_
 have hk := hk z hz
 conv => cbv
 exact hk
theorem authIdxF_sound : Sound Tryd.prog 57 fun args k => ∃ (l : List Au) (s : List (List PS)), args = [.s (.sl (l.map Au.row) s), .s (.v (.func (.func 35) #[] #[]))] ∧ l.length ≤ 2 ^ 40 ∧ (∀ x ∈ l, True) ∧ ∀ z : Int, (0 ≤ z ↔ ∃ x ∈ l, 255 < x.pa) → k [.s (.v (.int .i64 z))] := by
 refine Sound.of_body tt_ok ent_ok Tryd.func57 rfl ?_
 rintro ar har Γ hΓ args k ⟨l, s, hargs, hl, hok, hk⟩
 obtain ⟨X, hX⟩ : ∃ X, X = l.map Au.row := ⟨_, rfl⟩
 have hXl : ar.len X = (l.length : Int) := by rw [lenIs har, hX, List.length_map]
 rw [← hX] at hargs
 subst hargs
 conv => cbv
 refine .inr ⟨{ q : Nat × Int // q.1 ≤ l.length ∧ q.2 = q.1 ∧ ¬ ∃ x ∈ l.take q.1, 255 < x.pa },
  fun q => ⟨mk 19 [(0, .s (.p (.sl X s))), (1, .s (.p (.v (.func (.func 35) #[] #[])))), (4, .s (.lit .i64 0)), (7, pint (ar.len X)), (8, pint q.1.2)], []⟩,
  fun q => l.length - q.1.1, [], _, ⟨(0, 0), Nat.zero_le _, rfl, by simp⟩, rfl, ?_, ?_⟩
 ·conv => cbv
  simp
 ·rintro ⟨⟨p, pi⟩, hq⟩
  have hp : p ≤ l.length := hq.1
  have hpi : pi = (p : Int) := hq.2.1
  have hno : ¬ ∃ x ∈ l.take p, 255 < x.pa := hq.2.2
  dsimp only
  conv => cbv
  refine ⟨fun h => ?_, fun h => ?_⟩
  ·have g := cLt har (b := ar.len X) h
   have hlt : p < l.length := by omega
   obtain ⟨x, hx⟩ : ∃ x, l[p]? = some x := ⟨_, List.getElem?_eq_getElem hlt⟩
   have hxo := hok x (List.mem_of_getElem? hx)
   obtain ⟨b, hb⟩ : ∃ b : Bool, b = decide (255 < x.pa) := ⟨_, rfl⟩
   obtain ⟨ch, a, no, pa, r, s'⟩ := x
   obtain ⟨x1, h1⟩ : ∃ x, x = w4 ch := ⟨_, rfl⟩
   obtain ⟨x2, h2⟩ : ∃ x, x = u8s a := ⟨_, rfl⟩
   obtain ⟨x3, h3⟩ : ∃ x : Int, x = (no : Int) := ⟨_, rfl⟩
   obtain ⟨x4, h4⟩ : ∃ x : Int, x = (pa : Int) := ⟨_, rfl⟩
   obtain ⟨x5, h5⟩ : ∃ x, x = w4 r := ⟨_, rfl⟩
   obtain ⟨x6, h6⟩ : ∃ x, x = w4 s' := ⟨_, rfl⟩
   have hrow : (Au.mk ch a no pa r s').row = [.r 4 x1, .r 20 x2, .c (.v (.int .u64 x3)), .c (.v (.int .u64 x4)), .r 4 x5, .r 4 x6] := by rw [h1, h2, h3, h4, h5, h6]; rfl
   have rx : X[pi.toNat]? = some [.r 4 x1, .r 20 x2, .c (.v (.int .u64 x3)), .c (.v (.int .u64 x4)), .r 4 x5, .r 4 x6] := by rw [hX, hpi]; simp [hx, hrow]
   have callF : ∀ (Γ : Ctx) (d' : Nat) (k : List PR → Prop) (R : Prop), Γ = ctx Tryd.prog d' → k [.s (.v (.bool b))] → Γ.g 35 [.a [.r 4 x1, .r 20 x2, .c (.v (.int .u64 x3)), .c (.v (.int .u64 x4)), .r 4 x5, .r 4 x6]] k ∨ R := fun Γ d' k R hΓ hk => call_by hΓ wide_sound ⟨⟨ch, a, no, pa, r, s'⟩, by rw [hrow], by rw [← hb]; exact hk⟩
   clear h1 h2 h3 h4 h5 h6
   conv => cbv
   refine ⟨_, by omega, rx, rfl, ?_⟩
   conv => cbv
   refine callF _ _ _ _ hΓ ?_
   conv => cbv
   refine ⟨fun h2 => ?_, fun h2 => ?_⟩
   ·rw [h2] at hb
    have hk := hk pi ⟨fun _ => ⟨_, List.mem_of_getElem? hx, of_decide_eq_true hb.symm⟩, fun _ => by omega⟩
    conv => cbv
    exact hk
   ·rw [h2] at hb
    have hno2 : ¬ ∃ x ∈ l.take (p + 1), 255 < x.pa := by
     rintro ⟨y, hy, hP⟩
     rw [take_succ_get hx, List.mem_append, List.mem_singleton] at hy
     rcases hy with hy | rfl
     ·exact hno ⟨y, hy, hP⟩
     ·exact of_decide_eq_false hb.symm hP
    conv => cbv
    refine ⟨⟨(p + 1, ar.ib .add .i64 pi 1), hlt, iSucc har hpi (by omega), hno2⟩, ?_, ?_⟩
    ·dsimp only
     conv => cbv
     simp
    ·show l.length - (p + 1) < l.length - p
     omega
  ·have g := cNlt har (b := ar.len X) h
   have hpe : p = l.length := by omega
   have hk := hk (-1) ⟨fun h => by omega, fun h => by rw [hpe, List.take_length] at hno; exact absurd h hno⟩
   conv => cbv
   exact hk
theorem authConF_sound : Sound Tryd.prog 34 fun args k => ∃ (l : List Au) (s : List (List PS)), args = [.s (.sl (l.map Au.row) s), .s (.v (.func (.func 35) #[] #[]))] ∧ l.length ≤ 2 ^ 40 ∧ (∀ x ∈ l, True) ∧ k [.s (.v (.bool (l.any fun x => decide (255 < x.pa))))] := by
 refine Sound.of_body tt_ok ent_ok Tryd.func34 rfl ?_
 rintro ar har Γ hΓ args k ⟨l, s, hargs, hl, hok, hk⟩
 obtain ⟨X, hX⟩ : ∃ X, X = l.map Au.row := ⟨_, rfl⟩
 have callI : ∀ (Γ : Ctx) (d' : Nat) (k : List PR → Prop) (R : Prop), Γ = ctx Tryd.prog d' → (∀ z : Int, (0 ≤ z ↔ ∃ x ∈ l, 255 < x.pa) → k [.s (.v (.int .i64 z))]) → Γ.g 57 [.s (.sl X s), .s (.v (.func (.func 35) #[] #[]))] k ∨ R := fun Γ d' k R hΓ hk => call_by hΓ authIdxF_sound ⟨l, s, by rw [hX], hl, hok, hk⟩
 rw [← hX] at hargs
 have hk : ∀ z : Int, (0 ≤ z ↔ ∃ x ∈ l, 255 < x.pa) → k [.s (.v (.bool (ar.cb .geq z 0)))] := fun z hz => by
  have e : ar.cb .geq z 0 = l.any fun x => decide (255 < x.pa) := by
   rw [cIs har, Bool.eq_iff_iff, List.any_eq_true]
   simp only [decide_eq_true_eq]
   rw [← hz]
   simp [intC]
  rw [e]; exact hk
 clear hX
 subst hargs
 conv => cbv
 refine callI _ _ _ _ hΓ fun z hz => ?_
 have hk := hk z hz
 conv => cbv
 exact hk
end Go.Eng
namespace Go.Eng
open Go Go.Proofs
set_option maxRecDepth 100000
set_option maxHeartbeats 4000000
set_option linter.unusedVariables false
def absentB (t : Tx) (f : Int) : Bool :=
 if f = 0 then decide (t.ch = 0) else if f = 2 then decide (t.pr = 0) else if f = 3 then decide (t.ti = 0) else if f = 4 then decide (t.ca = 0) else if f = 9 then decide (t.ac.length = 0)
 else if f = 10 then decide (t.bc = 0) else if f = 11 then decide (t.bl.length = 0) else if f = 12 then decide (t.au.length = 0) else true
theorem absent_sound : Sound Tryd.prog 54 fun args k => ∃ (t : Tx) (f : Int), args = [.a t.row, .s (.v (.int .i64 f))] ∧ t.ok ∧ k [.s (.v (.bool (absentB t f)))] := by
 refine Sound.of_body tt_ok ent_ok Tryd.func54 rfl ?_
 rintro ar har Γ hΓ args k ⟨⟨tty, tch, tno, tpr, tti, tca, tga, tcr, tto, tva, td, tsd, tac, tsac, tbc, tbl, tsbl, tau, tsau, tv, tr, ts⟩, f, hargs, hto, hk⟩
 obtain ⟨tWpr, thWpr⟩ : ∃ x, x = w4 tpr := ⟨_, rfl⟩
 obtain ⟨tWti, thWti⟩ : ∃ x, x = w4 tti := ⟨_, rfl⟩
 obtain ⟨tWca, thWca⟩ : ∃ x, x = w4 tca := ⟨_, rfl⟩
 obtain ⟨tWva, thWva⟩ : ∃ x, x = w4 tva := ⟨_, rfl⟩
 obtain ⟨tWbc, thWbc⟩ : ∃ x, x = w4 tbc := ⟨_, rfl⟩
 obtain ⟨tWv, thWv⟩ : ∃ x, x = w4 tv := ⟨_, rfl⟩
 obtain ⟨tWr, thWr⟩ : ∃ x, x = w4 tr := ⟨_, rfl⟩
 obtain ⟨tWs, thWs⟩ : ∃ x, x = w4 ts := ⟨_, rfl⟩
 obtain ⟨tWto, thWto⟩ : ∃ x, x = u8s tto := ⟨_, rfl⟩
 obtain ⟨tD, thD⟩ : ∃ x, x = td.map b8' := ⟨_, rfl⟩
 obtain ⟨tA, thA⟩ : ∃ x, x = tac.map Ent.row := ⟨_, rfl⟩
 obtain ⟨tB, thB⟩ : ∃ x, x = tbl.map key := ⟨_, rfl⟩
 obtain ⟨tU, thU⟩ : ∃ x, x = tau.map Au.row := ⟨_, rfl⟩
 obtain ⟨tIch, thIch⟩ : ∃ x : Int, x = (tch : Int) := ⟨_, rfl⟩
 obtain ⟨tIno, thIno⟩ : ∃ x : Int, x = (tno : Int) := ⟨_, rfl⟩
 obtain ⟨tIga, thIga⟩ : ∃ x : Int, x = (tga : Int) := ⟨_, rfl⟩
 have hrow : (Tx.mk tty tch tno tpr tti tca tga tcr tto tva td tsd tac tsac tbc tbl tsbl tau tsau tv tr ts).row = [.c (.v (.int .i64 tty)), .c (.v (.int .u64 tIch)), .c (.v (.int .u64 tIno)), .r 4 tWpr, .r 4 tWti, .r 4 tWca, .c (.v (.int .u64 tIga)), .c (.v (.bool tcr)), .r 20 tWto, .r 4 tWva, .c (.sl tD tsd), .c (.sl tA tsac), .r 4 tWbc, .c (.sl tB tsbl), .c (.sl tU tsau), .r 4 tWv, .r 4 tWr, .r 4 tWs] := by rw [thWpr, thWti, thWca, thWva, thWbc, thWv, thWr, thWs, thWto, thD, thA, thB, thU, thIch, thIno, thIga]; rfl
 have z4 : ints .u64 (w4 0) := intsW4 0
 have e0 : ar.cb .eql tIch 0 = decide (tch = 0) := by
  rw [cIs har, thIch, Bool.eq_iff_iff, decide_eq_true_iff]; simp [intC]
 have hA : ar.len tA = (tac.length : Int) := by rw [lenIs har, thA, List.length_map]
 have hB : ar.len tB = (tbl.length : Int) := by rw [lenIs har, thB, List.length_map]
 have hU : ar.len tU = (tau.length : Int) := by rw [lenIs har, thU, List.length_map]
 have el : ∀ (X : List (List PS)) (n : Nat), ar.len X = (n : Int) → ar.cb .eql (ar.len X) 0 = decide (n = 0) := fun X n h => by
  rw [h, cIs har, Bool.eq_iff_iff, decide_eq_true_iff]; simp [intC]
 have ew : ∀ (W : List Value) (n : Nat), W = w4 n → n < M256 → ar.eqv W (w4 0) = decide (n = 0) := fun W n h hn => by
  rw [eqvIs har, h, eqV4 hn (by decide)]
 have ipr : ints .u64 tWpr := by rw [thWpr]; exact intsW4 _
 have epr := ew tWpr tpr thWpr hto.pr
 have iti : ints .u64 tWti := by rw [thWti]; exact intsW4 _
 have eti := ew tWti tti thWti hto.ti
 have ica : ints .u64 tWca := by rw [thWca]; exact intsW4 _
 have eca := ew tWca tca thWca hto.ca
 have ibc : ints .u64 tWbc := by rw [thWbc]; exact intsW4 _
 have ebc := ew tWbc tbc thWbc hto.bc
 have eA := el tA _ hA
 have eB := el tB _ hB
 have eU := el tU _ hU
 rw [hrow] at hargs
 simp only [absentB] at hk
 clear thWpr thWti thWca thWva thWbc thWv thWr thWs thWto thD thA thB thU thIch thIno thIga hrow hA hB hU el ew hto
 subst hargs
 conv => cbv
 refine ⟨fun h => ?_, fun h => ?_⟩
 ·have g := cEq har (a := f) (b := 0) h
  rw [if_pos g, ← e0] at hk
  conv => cbv
  exact hk
 have g0 := cNeq har (a := f) (b := 0) h
 rw [if_neg g0] at hk
 conv => cbv
 refine ⟨fun h => ?_, fun h => ?_⟩
 ·have g := cEq har (a := f) (b := 2) h
  rw [if_pos g, ← epr] at hk
  conv => cbv
  trace_state
  exact ⟨fun _ => ⟨ipr, z4⟩, hk⟩
 have g2 := cNeq har (a := f) (b := 2) h
 rw [if_neg g2] at hk
 conv => cbv
 refine ⟨fun h => ?_, fun h => ?_⟩
 ·have g := cEq har (a := f) (b := 3) h
  rw [if_pos g, ← eti] at hk
  conv => cbv
  trace_state
  exact ⟨fun _ => ⟨iti, z4⟩, hk⟩
 have g3 := cNeq har (a := f) (b := 3) h
 rw [if_neg g3] at hk
 conv => cbv
 refine ⟨fun h => ?_, fun h => ?_⟩
 ·have g := cEq har (a := f) (b := 4) h
  rw [if_pos g, ← eca] at hk
  conv => cbv
  trace_state
  exact ⟨fun _ => ⟨ica, z4⟩, hk⟩
 have g4 := cNeq har (a := f) (b := 4) h
 rw [if_neg g4] at hk
 conv => cbv
 refine ⟨fun h => ?_, fun h => ?_⟩
 ·have g := cEq har (a := f) (b := 9) h
  rw [if_pos g, ← eA] at hk
  conv => cbv
  exact hk
 have g9 := cNeq har (a := f) (b := 9) h
 rw [if_neg g9] at hk
 conv => cbv
 refine ⟨fun h => ?_, fun h => ?_⟩
 ·have g := cEq har (a := f) (b := 10) h
  rw [if_pos g, ← ebc] at hk
  conv => cbv
  trace_state
  exact ⟨fun _ => ⟨ibc, z4⟩, hk⟩
 have g10 := cNeq har (a := f) (b := 10) h
 rw [if_neg g10] at hk
 conv => cbv
 refine ⟨fun h => ?_, fun h => ?_⟩
 ·have g := cEq har (a := f) (b := 11) h
  rw [if_pos g, ← eB] at hk
  conv => cbv
  exact hk
 have g11 := cNeq har (a := f) (b := 11) h
 rw [if_neg g11] at hk
 conv => cbv
 refine ⟨fun h => ?_, fun h => ?_⟩
 ·have g := cEq har (a := f) (b := 12) h
  rw [if_pos g, ← eU] at hk
  conv => cbv
  exact hk
 have g12 := cNeq har (a := f) (b := 12) h
 rw [if_neg g12] at hk
 conv => cbv
 exact hk
end Go.Eng
namespace Go.Eng
open Go Go.Proofs
set_option maxRecDepth 100000
set_option maxHeartbeats 8000000
set_option linter.unusedVariables false
def okF (t : Tx) (f : Int) : Bool := decide (f ∈ txFs t.ty) || absentB t f || (decide (t.ty = 0) && decide (f = 0))
def z20s : List Int := List.replicate 20 0
def fitsB (t : Tx) : Bool :=
 (List.range 16).all (fun f : Nat => okF t f) && !(t.cr && decide (t.to ≠ z20s)) && decide (t.bl.length ≤ 4096) && !(t.bl.any fun x => decide (x.getD 0 0 ≠ 1))
theorem fits_sound : Sound Tryd.prog 33 fun args k => ∃ (t : Tx), args = [.a t.row] ∧ t.ok ∧ t.small ∧ k [.s (.v (.bool (fitsB t)))] := by
 refine Sound.of_body tt_ok ent_ok Tryd.func33 rfl ?_
 rintro ar har Γ hΓ args k ⟨⟨tty, tch, tno, tpr, tti, tca, tga, tcr, tto, tva, td, tsd, tac, tsac, tbc, tbl, tsbl, tau, tsau, tv, tr, ts⟩, hargs, hto, hsm, hk⟩
 obtain ⟨t, ht⟩ : ∃ t, t = Tx.mk tty tch tno tpr tti tca tga tcr tto tva td tsd tac tsac tbc tbl tsbl tau tsau tv tr ts := ⟨_, rfl⟩
 obtain ⟨tWpr, thWpr⟩ : ∃ x, x = w4 tpr := ⟨_, rfl⟩
 obtain ⟨tWti, thWti⟩ : ∃ x, x = w4 tti := ⟨_, rfl⟩
 obtain ⟨tWca, thWca⟩ : ∃ x, x = w4 tca := ⟨_, rfl⟩
 obtain ⟨tWva, thWva⟩ : ∃ x, x = w4 tva := ⟨_, rfl⟩
 obtain ⟨tWbc, thWbc⟩ : ∃ x, x = w4 tbc := ⟨_, rfl⟩
 obtain ⟨tWv, thWv⟩ : ∃ x, x = w4 tv := ⟨_, rfl⟩
 obtain ⟨tWr, thWr⟩ : ∃ x, x = w4 tr := ⟨_, rfl⟩
 obtain ⟨tWs, thWs⟩ : ∃ x, x = w4 ts := ⟨_, rfl⟩
 obtain ⟨tWto, thWto⟩ : ∃ x, x = u8s tto := ⟨_, rfl⟩
 obtain ⟨tD, thD⟩ : ∃ x, x = td.map b8' := ⟨_, rfl⟩
 obtain ⟨tA, thA⟩ : ∃ x, x = tac.map Ent.row := ⟨_, rfl⟩
 obtain ⟨tB, thB⟩ : ∃ x, x = tbl.map key := ⟨_, rfl⟩
 obtain ⟨tU, thU⟩ : ∃ x, x = tau.map Au.row := ⟨_, rfl⟩
 obtain ⟨tIch, thIch⟩ : ∃ x : Int, x = (tch : Int) := ⟨_, rfl⟩
 obtain ⟨tIno, thIno⟩ : ∃ x : Int, x = (tno : Int) := ⟨_, rfl⟩
 obtain ⟨tIga, thIga⟩ : ∃ x : Int, x = (tga : Int) := ⟨_, rfl⟩
 have hrow : t.row = [.c (.v (.int .i64 tty)), .c (.v (.int .u64 tIch)), .c (.v (.int .u64 tIno)), .r 4 tWpr, .r 4 tWti, .r 4 tWca, .c (.v (.int .u64 tIga)), .c (.v (.bool tcr)), .r 20 tWto, .r 4 tWva, .c (.sl tD tsd), .c (.sl tA tsac), .r 4 tWbc, .c (.sl tB tsbl), .c (.sl tU tsau), .r 4 tWv, .r 4 tWr, .r 4 tWs] := by rw [ht]; exact (by rw [thWpr, thWti, thWca, thWva, thWbc, thWv, thWr, thWs, thWto, thD, thA, thB, thU, thIch, thIno, thIga]; rfl)
 rw [← ht] at hargs hto hsm hk
 have hty : t.ty = tty := by rw [ht]
 obtain ⟨F, hF⟩ : ∃ x, x = (txFs tty).map irow := ⟨_, rfl⟩
 have hfl : (txFs tty).length ≤ 2 ^ 40 := by
  have : ∀ y, (txFs y).length ≤ 14 := fun y => by unfold txFs; (repeat' split) <;> decide
  have := this tty
  omega
 have callR : ∀ (Γ : Ctx) (d' : Nat) (k : List PR → Prop) (R : Prop), Γ = ctx Tryd.prog d' → k [.s (.sl F [])] → Γ.g 21 [.s (.v (.int .i64 tty))] k ∨ R := fun Γ d' k R hΓ hk => call_by hΓ rowOf_sound ⟨tty, rfl, by rw [← hF]; exact hk⟩
 have callC : ∀ (f : Int) (c : Bool) (Γ : Ctx) (d' : Nat) (k : List PR → Prop) (R : Prop), Γ = ctx Tryd.prog d' → c = decide (f ∈ txFs tty) → k [.s (.v (.bool c))] → Γ.g 53 [.s (.sl F []), .s (.v (.int .i64 f))] k ∨ R := fun f c Γ d' k R hΓ hc hk => call_by hΓ contains_sound ⟨txFs tty, f, [], by rw [hF], hfl, by rw [← hc]; exact hk⟩
 have callA : ∀ (f : Int) (c : Bool) (Γ : Ctx) (d' : Nat) (k : List PR → Prop) (R : Prop), Γ = ctx Tryd.prog d' → c = absentB t f → k [.s (.v (.bool c))] → Γ.g 54 [.a [.c (.v (.int .i64 tty)), .c (.v (.int .u64 tIch)), .c (.v (.int .u64 tIno)), .r 4 tWpr, .r 4 tWti, .r 4 tWca, .c (.v (.int .u64 tIga)), .c (.v (.bool tcr)), .r 20 tWto, .r 4 tWva, .c (.sl tD tsd), .c (.sl tA tsac), .r 4 tWbc, .c (.sl tB tsbl), .c (.sl tU tsau), .r 4 tWv, .r 4 tWr, .r 4 tWs], .s (.v (.int .i64 f))] k ∨ R := fun f c Γ d' k R hΓ hc hk => call_by hΓ absent_sound ⟨t, f, by rw [hrow], hto, by rw [← hc]; exact hk⟩
 obtain ⟨bB, hbB⟩ : ∃ b : Bool, b = tbl.any fun x => decide (x.getD 0 0 ≠ 1) := ⟨_, rfl⟩
 have callB : ∀ (Γ : Ctx) (d' : Nat) (k : List PR → Prop) (R : Prop), Γ = ctx Tryd.prog d' → k [.s (.v (.bool bB))] → Γ.g 55 [.s (.sl tB tsbl), .s (.v (.func (.func 56) #[] #[]))] k ∨ R := fun Γ d' k R hΓ hk => call_by hΓ hashConF_sound ⟨tbl, tsbl, by rw [thB], by have := hsm.bl; rw [ht] at this; simp only at this; omega, fun x hx => (hto.bl x (by rw [ht]; exact hx)).1, by rw [← hbB]; exact hk⟩
 obtain ⟨bT, hbT⟩ : ∃ b : Bool, b = decide (tto = z20s) := ⟨_, rfl⟩
 have iT : ints .u8 tWto := by rw [thWto]; exact ints_u8s _
 have iZ : ints .u8 (u8s z20s) := ints_u8s _
 have eT : ar.eqv tWto (u8s z20s) = bT := by rw [eqvIs har, thWto, eqVals_u8s, hbT, Bool.eq_iff_iff, beq_iff_eq, decide_eq_true_iff]
 have hBl : ar.len tB = (tbl.length : Int) := by rw [lenIs har, thB, List.length_map]
 have hk : ∀ b, b = fitsB t → k [.s (.v (.bool b))] := fun b hb => by rw [hb]; exact hk
 have hfit : fitsB t = ((List.range 16).all (fun f : Nat => okF t f) && !(tcr && !bT) && decide (tbl.length ≤ 4096) && !bB) := by
  have : decide (tto ≠ z20s) = !bT := by rw [hbT]; simp
  rw [← this, hbB]; unfold fitsB; rw [ht]
 rw [hrow] at hargs
 conv at eT => lhs; cbv
 have n0 : ar.nb true = false := by rw [har]; rfl
 have n1 : ar.nb false = true := by rw [har]; rfl
 have okE : ∀ f : Int, okF t f = (decide (f ∈ txFs tty) || absentB t f || (decide (tty = 0) && decide (f = 0))) := fun f => by unfold okF; rw [hty]
 clear ht hF
 subst hargs
 conv => cbv
 refine .inr ⟨{ q : Nat × Int // q.1 ≤ 16 ∧ q.2 = q.1 ∧ ∀ j : Nat, j < q.1 → okF t j = true },
  fun q => ⟨mk 47 [(1, .s (.ptr 0 0)), (2, .s (.bl false)), (4, pint q.1.2)], [.box [.c (.p (.v (.int .i64 tty))), .c (.p (.v (.int .u64 tIch))), .c (.p (.v (.int .u64 tIno))), .r 4 tWpr, .r 4 tWti, .r 4 tWca, .c (.p (.v (.int .u64 tIga))), .c (.p (.v (.bool tcr))), .r 20 tWto, .r 4 tWva, .c (.p (.sl tD tsd)), .c (.p (.sl tA tsac)), .r 4 tWbc, .c (.p (.sl tB tsbl)), .c (.p (.sl tU tsau)), .r 4 tWv, .r 4 tWr, .r 4 tWs]]⟩,
  fun q => 16 - q.1.1, [], _, ⟨(0, 0), Nat.zero_le _, rfl, fun j hj => absurd hj (Nat.not_lt_zero _)⟩, rfl, ?_, ?_⟩
 ·conv => cbv
  simp
 ·rintro ⟨⟨p, pi⟩, hq⟩
  have hp : p ≤ 16 := hq.1
  have hpi : pi = (p : Int) := hq.2.1
  have hall : ∀ j : Nat, j < p → okF t j = true := hq.2.2
  dsimp only
  conv => cbv
  refine ⟨fun h => ?_, fun h => ?_⟩
  ·have g := cLt har (a := pi) (b := 16) h
   have hbad : okF t pi = false → fitsB t = false := fun h => by
    rw [hfit]
    have : (List.range 16).all (fun f : Nat => okF t f) = false := List.all_eq_false.2 ⟨p, List.mem_range.2 (by omega), by rw [← hpi, h]; simp⟩
    rw [this]; simp
   have hnext : okF t pi = true → ∀ j : Nat, j < p + 1 → okF t j = true := fun h j hj => by
    rcases Nat.lt_or_ge j p with hlt | hge
    ·exact hall j hlt
    ·rw [show (j : Int) = pi by omega]; exact h
   have go : okF t pi = true → ∃ j : { q : Nat × Int // q.1 ≤ 16 ∧ q.2 = q.1 ∧ ∀ j : Nat, j < q.1 → okF t j = true }, j.1 = (p + 1, ar.ib .add .i64 pi 1) ∧ 16 - j.1.1 < 16 - p := fun h => ⟨⟨(p + 1, ar.ib .add .i64 pi 1), by show p + 1 ≤ 16; omega, iSucc har hpi (by omega), hnext h⟩, rfl, by show 16 - (p + 1) < 16 - p; omega⟩
   obtain ⟨c1, hc1⟩ : ∃ c : Bool, c = decide (pi ∈ txFs tty) := ⟨_, rfl⟩
   obtain ⟨c2, hc2⟩ : ∃ c : Bool, c = absentB t pi := ⟨_, rfl⟩
   have hok := okE pi
   rw [← hc1, ← hc2] at hok
   conv => cbv
   refine callR _ _ _ _ hΓ ?_
   conv => cbv
   refine callC _ c1 _ _ _ _ hΓ hc1 ?_
   conv => cbv
   have fin : ∀ x : { q : Nat × Int // q.1 ≤ 16 ∧ q.2 = q.1 ∧ ∀ j : Nat, j < q.1 → okF t j = true }, True := fun _ => trivial
   cases c1 with
   | true =>
    have hok2 : okF t pi = true := by rw [hok]; rfl
    refine onF n0 ?_
    conv => cbv
    refine ⟨⟨(p + 1, ar.ib .add .i64 pi 1), by show p + 1 ≤ 16; omega, iSucc har hpi (by omega), hnext hok2⟩, ?_, ?_⟩
    ·dsimp only
     conv => cbv
     simp
    ·show 16 - (p + 1) < 16 - p
     omega
   | false =>
    refine onT n1 ?_
    conv => cbv
    refine callA _ c2 _ _ _ _ hΓ hc2 ?_
    conv => cbv
    cases c2 with
    | true =>
     have hok2 : okF t pi = true := by rw [hok]; rfl
     refine onF n0 ?_
     conv => cbv
     refine ⟨⟨(p + 1, ar.ib .add .i64 pi 1), by show p + 1 ≤ 16; omega, iSucc har hpi (by omega), hnext hok2⟩, ?_, ?_⟩
     ·dsimp only
      conv => cbv
      simp
     ·show 16 - (p + 1) < 16 - p
      omega
    | false =>
     refine onT n1 ?_
     conv => cbv
     refine ⟨fun h => ?_, fun h => ?_⟩
     ·have g2 := cNne har (a := tty) (b := 0) h
      conv => cbv
      refine ⟨fun h => ?_, fun h => ?_⟩
      ·have g3 := cNe har (a := pi) (b := 0) h
       have hk := hk false (by rw [hbad (by rw [hok, decide_eq_false g3]; simp)])
       conv => cbv
       exact hk
      ·have g3 := cNne har (a := pi) (b := 0) h
       have hok2 : okF t pi = true := by rw [hok, decide_eq_true g2, decide_eq_true g3]; rfl
       conv => cbv
       refine ⟨⟨(p + 1, ar.ib .add .i64 pi 1), by show p + 1 ≤ 16; omega, iSucc har hpi (by omega), hnext hok2⟩, ?_, ?_⟩
       ·dsimp only
        conv => cbv
        simp
       ·show 16 - (p + 1) < 16 - p
        omega
     ·have g2 := cNe har (a := tty) (b := 0) h
      have hk := hk false (by rw [hbad (by rw [hok, decide_eq_false g2]; rfl)])
      conv => cbv
      exact hk
  ·have g := cNlt har (a := pi) (b := 16) h
   have hr : (List.range 16).all (fun f : Nat => okF t f) = true := List.all_eq_true.2 fun j hj => hall j (by have := List.mem_range.1 hj; omega)
   rw [hr] at hfit
   have hk4 : ∀ b, b = fitsB t → k [.s (.v (.bool b))] := hk
   conv => cbv
   refine ⟨fun h => ?_, fun h => ?_⟩
   ·subst h
    conv => cbv
    refine ⟨fun _ => ⟨iT, iZ⟩, ?_⟩
    rw [eT]
    cases bT with
    | true =>
     refine ⟨fun _ => ?_, fun h => absurd (n0.symm.trans h) (by decide)⟩
     conv => cbv
     refine ⟨fun h => ?_, fun h => ?_⟩
     ·have g2 := cGt har (a := ar.len tB) (b := 4096) h
      have hk := hk4 false (by rw [hfit, decide_eq_false (by omega)]; rfl)
      conv => cbv
      exact hk
     ·have g2 := cNgt har (a := ar.len tB) (b := 4096) h
      have hk := hk4 (ar.nb bB) (by rw [hfit, decide_eq_true (by omega), har]; rfl)
      conv => cbv
      refine callB _ _ _ _ hΓ ?_
      conv => cbv
      exact hk
    | false =>
     refine ⟨fun h => absurd (n1.symm.trans h) (by decide), fun _ => ?_⟩
     have hk := hk4 false (by rw [hfit]; rfl)
     conv => cbv
     exact hk
   ·subst h
    conv => cbv
    refine ⟨fun h => ?_, fun h => ?_⟩
    ·have g2 := cGt har (a := ar.len tB) (b := 4096) h
     have hk := hk4 false (by rw [hfit, decide_eq_false (by omega)]; simp)
     conv => cbv
     exact hk
    ·have g2 := cNgt har (a := ar.len tB) (b := 4096) h
     have hk := hk4 (ar.nb bB) (by rw [hfit, decide_eq_true (by omega), har]; rfl)
     conv => cbv
     refine callB _ _ _ _ hΓ ?_
     conv => cbv
     exact hk
end Go.Eng
namespace Go.Eng
open Go Go.Proofs
set_option maxRecDepth 100000
set_option maxHeartbeats 8000000
set_option linter.unusedVariables false
def draftE (t : Tx) : Int :=
 if t.ty < 0 ∨ 5 ≤ t.ty then 150 else if fitsB t = false then 152 else if 9223372036854775807 < t.ch then 153 else if 3 ≤ t.ty ∧ t.cr = true then 155
 else if (t.ty = 3 ∧ t.bl.length = 0) ∨ (t.ty = 4 ∧ t.au.length = 0) then 156 else if (t.au.any fun x => decide (255 < x.pa)) = true then 141 else 0
def signB (t : Tx) : Bool := if t.ty = 0 then decide (chE t.v = 0 ∧ chC t.v = t.ch) else decide (t.v ≤ 1)
theorem draft_sound : Sound Tryd.prog 18 fun args k => ∃ (t : Tx), args = [.a t.row] ∧ t.ok ∧ t.small ∧ k [.s (.v (.int .i64 (draftE t)))] := by
 refine Sound.of_body tt_ok ent_ok Tryd.func18 rfl ?_
 rintro ar har Γ hΓ args k ⟨⟨tty, tch, tno, tpr, tti, tca, tga, tcr, tto, tva, td, tsd, tac, tsac, tbc, tbl, tsbl, tau, tsau, tv, tr, ts⟩, hargs, hto, hsm, hk⟩
 obtain ⟨t, ht⟩ : ∃ t, t = Tx.mk tty tch tno tpr tti tca tga tcr tto tva td tsd tac tsac tbc tbl tsbl tau tsau tv tr ts := ⟨_, rfl⟩
 obtain ⟨tWpr, thWpr⟩ : ∃ x, x = w4 tpr := ⟨_, rfl⟩
 obtain ⟨tWti, thWti⟩ : ∃ x, x = w4 tti := ⟨_, rfl⟩
 obtain ⟨tWca, thWca⟩ : ∃ x, x = w4 tca := ⟨_, rfl⟩
 obtain ⟨tWva, thWva⟩ : ∃ x, x = w4 tva := ⟨_, rfl⟩
 obtain ⟨tWbc, thWbc⟩ : ∃ x, x = w4 tbc := ⟨_, rfl⟩
 obtain ⟨tWv, thWv⟩ : ∃ x, x = w4 tv := ⟨_, rfl⟩
 obtain ⟨tWr, thWr⟩ : ∃ x, x = w4 tr := ⟨_, rfl⟩
 obtain ⟨tWs, thWs⟩ : ∃ x, x = w4 ts := ⟨_, rfl⟩
 obtain ⟨tWto, thWto⟩ : ∃ x, x = u8s tto := ⟨_, rfl⟩
 obtain ⟨tD, thD⟩ : ∃ x, x = td.map b8' := ⟨_, rfl⟩
 obtain ⟨tA, thA⟩ : ∃ x, x = tac.map Ent.row := ⟨_, rfl⟩
 obtain ⟨tB, thB⟩ : ∃ x, x = tbl.map key := ⟨_, rfl⟩
 obtain ⟨tU, thU⟩ : ∃ x, x = tau.map Au.row := ⟨_, rfl⟩
 obtain ⟨tIch, thIch⟩ : ∃ x : Int, x = (tch : Int) := ⟨_, rfl⟩
 obtain ⟨tIno, thIno⟩ : ∃ x : Int, x = (tno : Int) := ⟨_, rfl⟩
 obtain ⟨tIga, thIga⟩ : ∃ x : Int, x = (tga : Int) := ⟨_, rfl⟩
 have hrow : t.row = [.c (.v (.int .i64 tty)), .c (.v (.int .u64 tIch)), .c (.v (.int .u64 tIno)), .r 4 tWpr, .r 4 tWti, .r 4 tWca, .c (.v (.int .u64 tIga)), .c (.v (.bool tcr)), .r 20 tWto, .r 4 tWva, .c (.sl tD tsd), .c (.sl tA tsac), .r 4 tWbc, .c (.sl tB tsbl), .c (.sl tU tsau), .r 4 tWv, .r 4 tWr, .r 4 tWs] := by rw [ht]; exact (by rw [thWpr, thWti, thWca, thWva, thWbc, thWv, thWr, thWs, thWto, thD, thA, thB, thU, thIch, thIno, thIga]; rfl)
 rw [← ht] at hargs hto hsm hk
 obtain ⟨b1, hb1⟩ : ∃ b, b = fitsB t := ⟨_, rfl⟩
 obtain ⟨b2, hb2⟩ : ∃ b : Bool, b = tau.any fun x => decide (255 < x.pa) := ⟨_, rfl⟩
 have callF : ∀ (Γ : Ctx) (d' : Nat) (k : List PR → Prop) (R : Prop), Γ = ctx Tryd.prog d' → k [.s (.v (.bool b1))] → Γ.g 33 [.a [.c (.v (.int .i64 tty)), .c (.v (.int .u64 tIch)), .c (.v (.int .u64 tIno)), .r 4 tWpr, .r 4 tWti, .r 4 tWca, .c (.v (.int .u64 tIga)), .c (.v (.bool tcr)), .r 20 tWto, .r 4 tWva, .c (.sl tD tsd), .c (.sl tA tsac), .r 4 tWbc, .c (.sl tB tsbl), .c (.sl tU tsau), .r 4 tWv, .r 4 tWr, .r 4 tWs]] k ∨ R := fun Γ d' k R hΓ hk => call_by hΓ fits_sound ⟨t, by rw [hrow], hto, hsm, by rw [← hb1]; exact hk⟩
 have callU : ∀ (Γ : Ctx) (d' : Nat) (k : List PR → Prop) (R : Prop), Γ = ctx Tryd.prog d' → k [.s (.v (.bool b2))] → Γ.g 34 [.s (.sl tU tsau), .s (.v (.func (.func 35) #[] #[]))] k ∨ R := fun Γ d' k R hΓ hk => call_by hΓ authConF_sound ⟨tau, tsau, by rw [thU], by have := hsm.au; rw [ht] at this; simp only at this; omega, fun _ _ => trivial, by rw [← hb2]; exact hk⟩
 have hd : draftE t = if tty < 0 ∨ 5 ≤ tty then 150 else if b1 = false then 152 else if 9223372036854775807 < tch then 153 else if 3 ≤ tty ∧ tcr = true then 155 else if (tty = 3 ∧ tbl.length = 0) ∨ (tty = 4 ∧ tau.length = 0) then 156 else if b2 = true then 141 else 0 := by
  unfold draftE; rw [← hb1, hb2, ht]
 have hBl : ar.len tB = (tbl.length : Int) := by rw [lenIs har, thB, List.length_map]
 have hUl : ar.len tU = (tau.length : Int) := by rw [lenIs har, thU, List.length_map]
 rw [hd] at hk
 rw [hrow] at hargs
 clear ht hb1 hb2
 subst hargs
 have fail1 : (tty < 0 ∨ 5 ≤ tty) → k [.s (.v (.int .i64 150))] := fun h => by rw [if_pos h] at hk; exact hk
 conv => cbv
 refine ⟨fun h => ?_, fun h => ?_⟩
 rotate_left
 ·have g := cLt har (a := tty) (b := 0) h
  have hk := fail1 (.inl g)
  conv => cbv
  exact hk
 have g1 := cNlt har (a := tty) (b := 0) h
 conv => cbv
 refine ⟨fun h => ?_, fun h => ?_⟩
 ·have g := cGe har (a := tty) (b := 5) h
  have hk := fail1 (.inr g)
  conv => cbv
  exact hk
 have g2 := cNge har (a := tty) (b := 5) h
 rw [if_neg (by omega)] at hk
 conv => cbv
 refine callF _ _ _ _ hΓ ?_
 conv => cbv
 refine ⟨fun h => ?_, fun h => ?_⟩
 ·have g := nbT har h
  rw [if_pos g] at hk
  conv => cbv
  exact hk
 have g3 := nbF har h
 rw [if_neg (by rw [g3]; decide)] at hk
 conv => cbv
 refine ⟨fun h => ?_, fun h => ?_⟩
 ·have g := cGt har (a := tIch) (b := 9223372036854775807) h
  rw [if_pos (by omega)] at hk
  conv => cbv
  exact hk
 have g4 := cNgt har (a := tIch) (b := 9223372036854775807) h
 rw [if_neg (by omega)] at hk
 have empty : ((tty = 3 ∧ tbl.length = 0) ∨ (tty = 4 ∧ tau.length = 0)) → ¬ (3 ≤ tty ∧ tcr = true) → k [.s (.v (.int .i64 156))] := fun h h2 => by rw [if_neg h2, if_pos h] at hk; exact hk
 have last : ∀ x : Int, x = (if b2 = true then 141 else 0) → ¬ (3 ≤ tty ∧ tcr = true) → ¬ ((tty = 3 ∧ tbl.length = 0) ∨ (tty = 4 ∧ tau.length = 0)) → k [.s (.v (.int .i64 x))] := fun x hx h h2 => by rw [if_neg h, if_neg h2, ← hx] at hk; exact hk
 have to155 : 3 ≤ tty ∧ tcr = true → k [.s (.v (.int .i64 155))] := fun h => by rw [if_pos h] at hk; exact hk
 clear hk
 conv => cbv
 refine ⟨fun h => ?_, fun h => ?_⟩
 ·have g5 := cGe har (a := tty) (b := 3) h
  cases tcr with
  | true =>
   have hk := to155 ⟨g5, rfl⟩
   conv => cbv
   refine ⟨fun _ => hk, fun h => (by cases h)⟩
  | false =>
   conv => cbv
   refine ⟨fun h => (by cases h), fun _ => ?_⟩
   conv => cbv
   refine ⟨fun h => ?_, fun h => ?_⟩
   ·have g6 := cEq har (a := tty) (b := 3) h
    conv => cbv
    refine ⟨fun h => ?_, fun h => ?_⟩
    ·have g7 := cEq har (a := ar.len tB) (b := 0) h
     have hk := empty (.inl ⟨g6, by omega⟩) (by simp )
     conv => cbv
     exact hk
    ·have g7 := cNeq har (a := ar.len tB) (b := 0) h
     conv => cbv
     refine ⟨fun h => ?_, fun h => ?_⟩
     ·have g8 := cEq har (a := tty) (b := 4) h
      conv => cbv
      refine ⟨fun h => ?_, fun h => ?_⟩
      ·have g9 := cEq har (a := ar.len tU) (b := 0) h
       have hk := empty (.inr ⟨g8, by omega⟩) (by simp )
       conv => cbv
       exact hk
      ·have g9 := cNeq har (a := ar.len tU) (b := 0) h
       have last := fun x hx => last x hx (by simp ) (by omega)
       conv => cbv
       refine callU _ _ _ _ hΓ ?_
       conv => cbv
       cases b2 with
       | true =>
        have hk := last 141 rfl
        refine onT rfl ?_
        conv => cbv
        exact hk
       | false =>
        have hk := last 0 rfl
        refine onF rfl ?_
        conv => cbv
        exact hk
     ·have g8 := cNeq har (a := tty) (b := 4) h
      have last := fun x hx => last x hx (by simp ) (by omega)
      conv => cbv
      refine callU _ _ _ _ hΓ ?_
      conv => cbv
      cases b2 with
      | true =>
       have hk := last 141 rfl
       refine onT rfl ?_
       conv => cbv
       exact hk
      | false =>
       have hk := last 0 rfl
       refine onF rfl ?_
       conv => cbv
       exact hk
   ·have g6 := cNeq har (a := tty) (b := 3) h
    conv => cbv
    refine ⟨fun h => ?_, fun h => ?_⟩
    ·have g8 := cEq har (a := tty) (b := 4) h
     conv => cbv
     refine ⟨fun h => ?_, fun h => ?_⟩
     ·have g9 := cEq har (a := ar.len tU) (b := 0) h
      have hk := empty (.inr ⟨g8, by omega⟩) (by simp )
      conv => cbv
      exact hk
     ·have g9 := cNeq har (a := ar.len tU) (b := 0) h
      have last := fun x hx => last x hx (by simp ) (by omega)
      conv => cbv
      refine callU _ _ _ _ hΓ ?_
      conv => cbv
      cases b2 with
      | true =>
       have hk := last 141 rfl
       refine onT rfl ?_
       conv => cbv
       exact hk
      | false =>
       have hk := last 0 rfl
       refine onF rfl ?_
       conv => cbv
       exact hk
    ·have g8 := cNeq har (a := tty) (b := 4) h
     have last := fun x hx => last x hx (by simp ) (by omega)
     conv => cbv
     refine callU _ _ _ _ hΓ ?_
     conv => cbv
     cases b2 with
     | true =>
      have hk := last 141 rfl
      refine onT rfl ?_
      conv => cbv
      exact hk
     | false =>
      have hk := last 0 rfl
      refine onF rfl ?_
      conv => cbv
      exact hk
 ·have g5 := cNge har (a := tty) (b := 3) h
  conv => cbv
  refine ⟨fun h => ?_, fun h => ?_⟩
  ·have g6 := cEq har (a := tty) (b := 3) h
   conv => cbv
   refine ⟨fun h => ?_, fun h => ?_⟩
   ·have g7 := cEq har (a := ar.len tB) (b := 0) h
    have hk := empty (.inl ⟨g6, by omega⟩) (by simp ; omega)
    conv => cbv
    exact hk
   ·have g7 := cNeq har (a := ar.len tB) (b := 0) h
    conv => cbv
    refine ⟨fun h => ?_, fun h => ?_⟩
    ·have g8 := cEq har (a := tty) (b := 4) h
     conv => cbv
     refine ⟨fun h => ?_, fun h => ?_⟩
     ·have g9 := cEq har (a := ar.len tU) (b := 0) h
      have hk := empty (.inr ⟨g8, by omega⟩) (by simp ; omega)
      conv => cbv
      exact hk
     ·have g9 := cNeq har (a := ar.len tU) (b := 0) h
      have last := fun x hx => last x hx (by simp ; omega) (by omega)
      conv => cbv
      refine callU _ _ _ _ hΓ ?_
      conv => cbv
      cases b2 with
      | true =>
       have hk := last 141 rfl
       refine onT rfl ?_
       conv => cbv
       exact hk
      | false =>
       have hk := last 0 rfl
       refine onF rfl ?_
       conv => cbv
       exact hk
    ·have g8 := cNeq har (a := tty) (b := 4) h
     have last := fun x hx => last x hx (by simp ; omega) (by omega)
     conv => cbv
     refine callU _ _ _ _ hΓ ?_
     conv => cbv
     cases b2 with
     | true =>
      have hk := last 141 rfl
      refine onT rfl ?_
      conv => cbv
      exact hk
     | false =>
      have hk := last 0 rfl
      refine onF rfl ?_
      conv => cbv
      exact hk
  ·have g6 := cNeq har (a := tty) (b := 3) h
   conv => cbv
   refine ⟨fun h => ?_, fun h => ?_⟩
   ·have g8 := cEq har (a := tty) (b := 4) h
    conv => cbv
    refine ⟨fun h => ?_, fun h => ?_⟩
    ·have g9 := cEq har (a := ar.len tU) (b := 0) h
     have hk := empty (.inr ⟨g8, by omega⟩) (by simp ; omega)
     conv => cbv
     exact hk
    ·have g9 := cNeq har (a := ar.len tU) (b := 0) h
     have last := fun x hx => last x hx (by simp ; omega) (by omega)
     conv => cbv
     refine callU _ _ _ _ hΓ ?_
     conv => cbv
     cases b2 with
     | true =>
      have hk := last 141 rfl
      refine onT rfl ?_
      conv => cbv
      exact hk
     | false =>
      have hk := last 0 rfl
      refine onF rfl ?_
      conv => cbv
      exact hk
   ·have g8 := cNeq har (a := tty) (b := 4) h
    have last := fun x hx => last x hx (by simp ; omega) (by omega)
    conv => cbv
    refine callU _ _ _ _ hΓ ?_
    conv => cbv
    cases b2 with
    | true =>
     have hk := last 141 rfl
     refine onT rfl ?_
     conv => cbv
     exact hk
    | false =>
     have hk := last 0 rfl
     refine onF rfl ?_
     conv => cbv
     exact hk
theorem signable_sound : Sound Tryd.prog 19 fun args k => ∃ (t : Tx), args = [.a t.row] ∧ t.ok ∧ k [.s (.v (.bool (signB t)))] := by
 refine Sound.of_body tt_ok ent_ok Tryd.func19 rfl ?_
 rintro ar har Γ hΓ args k ⟨⟨tty, tch, tno, tpr, tti, tca, tga, tcr, tto, tva, td, tsd, tac, tsac, tbc, tbl, tsbl, tau, tsau, tv, tr, ts⟩, hargs, hto, hk⟩
 obtain ⟨t, ht⟩ : ∃ t, t = Tx.mk tty tch tno tpr tti tca tga tcr tto tva td tsd tac tsac tbc tbl tsbl tau tsau tv tr ts := ⟨_, rfl⟩
 obtain ⟨tWpr, thWpr⟩ : ∃ x, x = w4 tpr := ⟨_, rfl⟩
 obtain ⟨tWti, thWti⟩ : ∃ x, x = w4 tti := ⟨_, rfl⟩
 obtain ⟨tWca, thWca⟩ : ∃ x, x = w4 tca := ⟨_, rfl⟩
 obtain ⟨tWva, thWva⟩ : ∃ x, x = w4 tva := ⟨_, rfl⟩
 obtain ⟨tWbc, thWbc⟩ : ∃ x, x = w4 tbc := ⟨_, rfl⟩
 obtain ⟨tWv, thWv⟩ : ∃ x, x = w4 tv := ⟨_, rfl⟩
 obtain ⟨tWr, thWr⟩ : ∃ x, x = w4 tr := ⟨_, rfl⟩
 obtain ⟨tWs, thWs⟩ : ∃ x, x = w4 ts := ⟨_, rfl⟩
 obtain ⟨tWto, thWto⟩ : ∃ x, x = u8s tto := ⟨_, rfl⟩
 obtain ⟨tD, thD⟩ : ∃ x, x = td.map b8' := ⟨_, rfl⟩
 obtain ⟨tA, thA⟩ : ∃ x, x = tac.map Ent.row := ⟨_, rfl⟩
 obtain ⟨tB, thB⟩ : ∃ x, x = tbl.map key := ⟨_, rfl⟩
 obtain ⟨tU, thU⟩ : ∃ x, x = tau.map Au.row := ⟨_, rfl⟩
 obtain ⟨tIch, thIch⟩ : ∃ x : Int, x = (tch : Int) := ⟨_, rfl⟩
 obtain ⟨tIno, thIno⟩ : ∃ x : Int, x = (tno : Int) := ⟨_, rfl⟩
 obtain ⟨tIga, thIga⟩ : ∃ x : Int, x = (tga : Int) := ⟨_, rfl⟩
 have hrow : t.row = [.c (.v (.int .i64 tty)), .c (.v (.int .u64 tIch)), .c (.v (.int .u64 tIno)), .r 4 tWpr, .r 4 tWti, .r 4 tWca, .c (.v (.int .u64 tIga)), .c (.v (.bool tcr)), .r 20 tWto, .r 4 tWva, .c (.sl tD tsd), .c (.sl tA tsac), .r 4 tWbc, .c (.sl tB tsbl), .c (.sl tU tsau), .r 4 tWv, .r 4 tWr, .r 4 tWs] := by rw [ht]; exact (by rw [thWpr, thWti, thWca, thWva, thWbc, thWv, thWr, thWs, thWto, thD, thA, thB, thU, thIch, thIno, thIga]; rfl)
 rw [← ht] at hargs hto hk
 have hv : tv < M256 := by have := hto.v; rw [ht] at this; exact this
 have hd : signB t = if tty = 0 then decide (chE tv = 0 ∧ chC tv = tch) else decide (tv ≤ 1) := by unfold signB; rw [ht]
 obtain ⟨F, hF⟩ : ∃ F, F = w4 1 := ⟨_, rfl⟩
 obtain ⟨Z, hZ⟩ : ∃ Z : Int, Z = cmpN tv 1 := ⟨_, rfl⟩
 obtain ⟨c1, hc1⟩ : ∃ x : Int, x = (chC tv : Int) := ⟨_, rfl⟩
 obtain ⟨c2, hc2⟩ : ∃ x, x = chN tv := ⟨_, rfl⟩
 obtain ⟨c3, hc3⟩ : ∃ x, x = chO tv := ⟨_, rfl⟩
 obtain ⟨c4, hc4⟩ : ∃ x, x = chE tv := ⟨_, rfl⟩
 have callF : ∀ (Γ : Ctx) (d' : Nat) (k : List PR → Prop), Γ = ctx Tryd.prog d' → k [.a [.r 4 F]] → Γ.g 37 [.s (.v (.int .u64 1))] k := fun Γ d' k hΓ hk => call_by' hΓ u256From_sound ⟨1, rfl, by omega, by unfold pw; rw [← hF]; exact hk⟩
 have callC : ∀ (Γ : Ctx) (d' : Nat) (k : List PR → Prop), Γ = ctx Tryd.prog d' → k [.s (.v (.int .i64 Z))] → Γ.g 36 [.a [.r 4 tWv], .a [.r 4 F]] k := fun Γ d' k hΓ hk => call_by' hΓ u256Cmp_sound ⟨tv, 1, by unfold pw; rw [thWv, hF], hv, by decide, by rw [← hZ]; exact hk⟩
 have callH : ∀ (Γ : Ctx) (d' : Nat) (k : List PR → Prop) (R : Prop), Γ = ctx Tryd.prog d' → k [.s (.v (.int .u64 c1)), .s (.v (.bool c2)), .s (.v (.bool c3)), .s (.v (.int .i64 c4))] → Γ.g 38 [.a [.r 4 tWv]] k ∨ R := fun Γ d' k R hΓ hk => call_by hΓ txChain_sound ⟨tv, by unfold pw; rw [thWv], hv, by rw [← hc1, ← hc2, ← hc3, ← hc4]; exact hk⟩
 have hk : ∀ b : Bool, b = signB t → k [.s (.v (.bool b))] := fun b hb => by rw [hb]; exact hk
 rw [hrow] at hargs
 subst hargs
 conv => cbv
 refine ⟨fun h => ?_, fun h => ?_⟩
 ·have g := cNe har (a := tty) (b := 0) h
  have hk := hk (ar.cb .leq Z 0) (by
   rw [hd, if_neg g, cIs har, Bool.eq_iff_iff, decide_eq_true_iff, hZ]
   simp only [intC, decide_eq_true_eq]
   exact ⟨cmpN_le, fun h => by unfold cmpN; (repeat' split) <;> omega⟩)
  conv => cbv
  refine ⟨by rw [har]; kernel_rfl, ?_⟩
  refine callF _ _ _ hΓ ?_
  conv => cbv
  refine callC _ _ _ hΓ ?_
  conv => cbv
  exact hk
 ·have g := cNne har (a := tty) (b := 0) h
  rw [if_pos g] at hd
  conv => cbv
  refine callH _ _ _ _ hΓ ?_
  conv => cbv
  refine ⟨fun h => ?_, fun h => ?_⟩
  ·have g2 := cEq har (a := c4) (b := 0) h
   have hk := hk (ar.cb .eql c1 tIch) (by
    rw [hd, cIs har, Bool.eq_iff_iff, decide_eq_true_iff, ← hc4]
    simp only [intC, beq_iff_eq]
    rw [hc1, thIch]
    omega)
   conv => cbv
   exact hk
  ·have g2 := cNeq har (a := c4) (b := 0) h
   have hk := hk false (by rw [hd, ← hc4, decide_eq_false (fun h => g2 h.1)])
   conv => cbv
   exact hk
end Go.Eng
namespace Go.Eng
open Go Go.Proofs
set_option maxRecDepth 100000
set_option maxHeartbeats 8000000
set_option linter.unusedVariables false
def numF (t : Tx) (f : Int) : Nat :=
 if f = 2 then t.pr else if f = 3 then t.ti else if f = 4 then t.ca else if f = 7 then t.va else if f = 10 then t.bc else if f = 13 then t.v else if f = 14 then t.r else t.s
def fitP (it : It) : It × Int := if errOf it = 0 then (it, 0) else (.zero, 2)
def itemP (t : Tx) (f : Int) : It × Int :=
 if f = 0 then (numIt t.ch, 0) else if f = 1 then (numIt t.no, 0) else if f = 5 then (numIt t.ga, 0) else if f = 6 then (It.txt (if t.cr = true then [] else t.to), 0) else if f = 8 then (It.txt t.d, 0)
 else if f = 9 then fitP (It.lst (esIts t.ac)) else if f = 11 then (It.lst (ksIts t.bl), 0) else if f = 12 then (if wideU t.au = true then (.zero, 141) else fitP (It.lst (usIts t.au))) else (numIt (numF t f), 0)
structure Tx.fit (t : Tx) : Prop where
 d : t.d.length ≤ 2 ^ 28
 ac : bulks (esIts t.ac) ≤ 2 ^ 28
 bl : 33 * t.bl.length ≤ 2 ^ 28
 au : bulks (usIts t.au) ≤ 2 ^ 28
theorem Tx.fit.small {t : Tx} (h : t.fit) : t.small := by
 have h1 := bulks_len (esIts t.ac)
 have h2 : (esIts t.ac).length = t.ac.length := List.length_map ..
 have g1 := bulks_len (usIts t.au)
 have g2 : (usIts t.au).length = t.au.length := List.length_map ..
 refine ⟨by have := h.d; omega, by have := h.ac; omega, fun e he => ?_, by have := h.bl; omega, by have := h.au; omega⟩
 have h3 := bulk_mem (x := e.it) (its := esIts t.ac) (List.mem_map.2 ⟨e, he, rfl⟩)
 have h4 : e.it.bulk = _ := ent_bulk e.a e.ks
 have h5 := bulks_len (ksIts e.ks)
 have h6 : (ksIts e.ks).length = e.ks.length := List.length_map ..
 have := h.ac
 simp only [ksB] at h4
 omega
theorem numF_lt {t : Tx} (h : t.ok) (f : Int) : numF t f < M256 := by
 unfold numF
 (repeat' split)
 ·exact h.pr
 ·exact h.ti
 ·exact h.ca
 ·exact h.va
 ·exact h.bc
 ·exact h.v
 ·exact h.r
 ·exact h.s
theorem ks_bulk : ∀ l : List (List Int), (∀ w ∈ l, w.length = 32) → bulks (ksIts l) = 33 * l.length
 | [], _ => rfl
 | w :: l, h => by
  have h1 := ks_bulk l fun x hx => h x (by simp [hx])
  have h2 := h w (by simp)
  show (It.txt w).bulk + bulks (ksIts l) = _
  rw [h1, It.txt, It.bulk, h2, List.length_cons]; simp only [bulks]; omega
theorem item_sound : Sound Tryd.prog 39 fun args k => ∃ (t : Tx) (f : Int), args = [.a t.row, .s (.v (.int .i64 f))] ∧ t.ok ∧ t.fit ∧ k [.a (itemP t f).1.row, .s (.v (.int .i64 (itemP t f).2))] := by
 refine Sound.of_bodyI 1 tt_ok ent_ok Tryd.func39 rfl ?_
 rintro ar har Γ hΓ args k ⟨⟨tty, tch, tno, tpr, tti, tca, tga, tcr, tto, tva, td, tsd, tac, tsac, tbc, tbl, tsbl, tau, tsau, tv, tr, ts⟩, f, hargs, hto, hft, hk⟩
 obtain ⟨t, ht⟩ : ∃ t, t = Tx.mk tty tch tno tpr tti tca tga tcr tto tva td tsd tac tsac tbc tbl tsbl tau tsau tv tr ts := ⟨_, rfl⟩
 obtain ⟨tWpr, thWpr⟩ : ∃ x, x = w4 tpr := ⟨_, rfl⟩
 obtain ⟨tWti, thWti⟩ : ∃ x, x = w4 tti := ⟨_, rfl⟩
 obtain ⟨tWca, thWca⟩ : ∃ x, x = w4 tca := ⟨_, rfl⟩
 obtain ⟨tWva, thWva⟩ : ∃ x, x = w4 tva := ⟨_, rfl⟩
 obtain ⟨tWbc, thWbc⟩ : ∃ x, x = w4 tbc := ⟨_, rfl⟩
 obtain ⟨tWv, thWv⟩ : ∃ x, x = w4 tv := ⟨_, rfl⟩
 obtain ⟨tWr, thWr⟩ : ∃ x, x = w4 tr := ⟨_, rfl⟩
 obtain ⟨tWs, thWs⟩ : ∃ x, x = w4 ts := ⟨_, rfl⟩
 obtain ⟨tWto, thWto⟩ : ∃ x, x = u8s tto := ⟨_, rfl⟩
 obtain ⟨tD, thD⟩ : ∃ x, x = td.map b8' := ⟨_, rfl⟩
 obtain ⟨tA, thA⟩ : ∃ x, x = tac.map Ent.row := ⟨_, rfl⟩
 obtain ⟨tB, thB⟩ : ∃ x, x = tbl.map key := ⟨_, rfl⟩
 obtain ⟨tU, thU⟩ : ∃ x, x = tau.map Au.row := ⟨_, rfl⟩
 obtain ⟨tIch, thIch⟩ : ∃ x : Int, x = (tch : Int) := ⟨_, rfl⟩
 obtain ⟨tIno, thIno⟩ : ∃ x : Int, x = (tno : Int) := ⟨_, rfl⟩
 obtain ⟨tIga, thIga⟩ : ∃ x : Int, x = (tga : Int) := ⟨_, rfl⟩
 have hrow : t.row = [.c (.v (.int .i64 tty)), .c (.v (.int .u64 tIch)), .c (.v (.int .u64 tIno)), .r 4 tWpr, .r 4 tWti, .r 4 tWca, .c (.v (.int .u64 tIga)), .c (.v (.bool tcr)), .r 20 tWto, .r 4 tWva, .c (.sl tD tsd), .c (.sl tA tsac), .r 4 tWbc, .c (.sl tB tsbl), .c (.sl tU tsau), .r 4 tWv, .r 4 tWr, .r 4 tWs] := by rw [ht]; exact (by rw [thWpr, thWti, thWca, thWva, thWbc, thWv, thWr, thWs, thWto, thD, thA, thB, thU, thIch, thIno, thIga]; rfl)
 rw [← ht] at hargs hto hft hk
 have callS : ∀ (n : Nat) (z : Int) (D : List (List PS)) (Γ : Ctx) (d' : Nat) (k : List PR → Prop) (R : Prop), Γ = ctx Tryd.prog d' → z = n → n < 18446744073709551616 → D = (numB n).map b8 → k [.a (rtx D)] → Γ.g 60 [.s (.v (.int .u64 z))] k ∨ R := fun n z D Γ d' k R hΓ hz hn hD hk => call_by hΓ rSmall_sound ⟨n, by rw [hz], hn, by rw [hD] at hk; exact hk⟩
 have callN : ∀ (n : Nat) (x : List Value) (D : List (List PS)) (Γ : Ctx) (d' : Nat) (k : List PR → Prop) (R : Prop), Γ = ctx Tryd.prog d' → x = w4 n → n < M256 → D = (numB n).map b8 → k [.a (rtx D)] → Γ.g 12 [.a [.r 4 x]] k ∨ R := fun n x D Γ d' k R hΓ hx hn hD hk => call_by hΓ rNumber_sound ⟨n, by unfold pw; rw [hx], hn, by rw [hD] at hk; exact hk⟩
 have callX : ∀ (W s : List (List PS)) (w : List Int) (C : List (List PS)) (Γ : Ctx) (d' : Nat) (k : List PR → Prop) (R : Prop), Γ = ctx Tryd.prog d' → C = W → W = w.map b8 → w.length ≤ 2 ^ 40 → k [.a (rtx W)] → Γ.g 61 [.s (.sl C s)] k ∨ R := fun W s w C Γ d' k R hΓ hc hw hl hk => call_by hΓ text_sound ⟨w, s, by rw [hc, hw], hl, by rw [hw] at hk; exact hk⟩
 have callL : ∀ (J : List (List PS)) (its : List It) (Γ : Ctx) (d' : Nat) (k : List PR → Prop) (R : Prop), Γ = ctx Tryd.prog d' → strips its = its → J = rowsOf its → bulks its ≤ 2 ^ 40 → k [.a [.c (.v (.bool true)), .c (.sl [] []), .c (.sl J [])]] → Γ.g 14 [.s (.sl J [])] k ∨ R := fun J its Γ d' k R hΓ hs hJ hl hk => call_by hΓ list_sound ⟨its, [], by rw [hJ], hl, by rw [hs]; rw [hJ] at hk; exact hk⟩
 have hbl : ∀ w ∈ tbl, w.length = 32 := fun w hw => (hto.bl w (by rw [ht]; exact hw)).1
 have hbn : 33 * tbl.length ≤ 2 ^ 28 := by have := hft.bl; rw [ht] at this; exact this
 have hBl : ar.len tB = (tbl.length : Int) := by rw [lenIs har, thB, List.length_map]
 have hkb := ks_bulk tbl hbl
 obtain ⟨aI, haI⟩ : ∃ x, x = fitP (It.lst (esIts tac)) := ⟨_, rfl⟩
 obtain ⟨uI, huI⟩ : ∃ x, x = (if wideU tau = true then ((.zero, 141) : It × Int) else fitP (It.lst (usIts tau))) := ⟨_, rfl⟩
 obtain ⟨ab, ⟨aD, asd⟩, ⟨aJ, ass⟩, haR⟩ := row3 aI.1
 obtain ⟨ub, ⟨uD, usd⟩, ⟨uJ, uss⟩, huR⟩ := row3 uI.1
 obtain ⟨ae, hae⟩ : ∃ x, x = aI.2 := ⟨_, rfl⟩
 obtain ⟨ue, hue⟩ : ∃ x, x = uI.2 := ⟨_, rfl⟩
 have callA : ∀ (Γ : Ctx) (d' : Nat) (k : List PR → Prop) (R : Prop), Γ = ctx Tryd.prog d' → k [.a [.c (.v (.bool ab)), .c (.sl aD asd), .c (.sl aJ ass)], .s (.v (.int .i64 ae))] → Γ.g 62 [.s (.sl tA tsac)] k ∨ R := fun Γ d' k R hΓ hk => call_by hΓ accItem_sound ⟨tac, tsac, by rw [thA], fun e he => by have := hto.ac e (by rw [ht]; exact he); exact ⟨this.1, fun w hw => (this.2.2 w hw).1⟩, by have := hft.ac; rw [ht] at this; simp only at this; omega, by
  have e1 : (if errOf (It.lst (esIts tac)) = 0 then It.lst (esIts tac) else .zero) = aI.1 := by rw [haI, fitP]; split <;> rfl
  have e2 : (if errOf (It.lst (esIts tac)) = 0 then (0 : Int) else 2) = aI.2 := by rw [haI, fitP]; split <;> rfl
  rw [e1, e2, haR, ← hae]; exact hk⟩
 have hun : tau.length ≤ 2 ^ 30 := by
  have h1 := bulks_len (usIts tau)
  have h2 : (usIts tau).length = tau.length := List.length_map ..
  have h3 := hft.au
  rw [ht] at h3
  simp only at h3
  omega
 have callU : ∀ (Γ : Ctx) (d' : Nat) (k : List PR → Prop) (R : Prop), Γ = ctx Tryd.prog d' → k [.a [.c (.v (.bool ub)), .c (.sl uD usd), .c (.sl uJ uss)], .s (.v (.int .i64 ue))] → Γ.g 63 [.s (.sl tU tsau)] k ∨ R := fun Γ d' k R hΓ hk => call_by hΓ authItem_sound ⟨tau, tsau, by rw [thU], fun u hu => (hto.au u (by rw [ht]; exact hu)).1, hun, by
  have e1 : authItR tau = [.a uI.1.row, .s (.v (.int .i64 uI.2))] := by
   rw [authItR, huI, fitP]
   split
   ·rfl
   ·split <;> rfl
  rw [e1, huR, ← hue]; exact hk⟩
 have hnum : ∀ x, numF t x < M256 := fun x => numF_lt hto x
 have hch : tch < 18446744073709551616 := by have := hto.ch; rw [ht] at this; exact this
 have hno : tno < 18446744073709551616 := by have := hto.no; rw [ht] at this; exact this
 have hga : tga < 18446744073709551616 := by have := hto.ga; rw [ht] at this; exact this
 have hdl : td.length ≤ 2 ^ 40 := by have := hft.d; rw [ht] at this; simp only at this; omega
 have htl : tto.length ≤ 2 ^ 40 := by have := hto.to; rw [ht] at this; simp only at this; omega
 have hI : itemP t f = if f = 0 then (numIt tch, 0) else if f = 1 then (numIt tno, 0) else if f = 5 then (numIt tga, 0) else if f = 6 then (It.txt (if tcr = true then [] else tto), 0) else if f = 8 then (It.txt td, 0) else if f = 9 then aI else if f = 11 then (It.lst (ksIts tbl), 0) else if f = 12 then uI else (numIt (numF t f), 0) := by
  rw [haI, huI, ht]; rfl
 have hN : ∀ x, numF t x = if x = 2 then tpr else if x = 3 then tti else if x = 4 then tca else if x = 7 then tva else if x = 10 then tbc else if x = 13 then tv else if x = 14 then tr else ts := fun x => by rw [ht]; rfl
 have hcells : ar.cells tWto = tto.map b8 := by rw [thWto]; exact bytes_cells ar har tto
 rw [hI] at hk
 rw [hrow] at hargs
 have hrs : ∀ n : Nat, (numIt n).row = rtx ((numB n).map b8) := fun n => rfl
 clear ht hI
 subst hargs
 conv => cbv
 refine ⟨fun h => ?_, fun h => ?_⟩
 ·have g := cEq har (a := f) (b := 0) h
  rw [if_pos g] at hk
  obtain ⟨D, hD⟩ : ∃ D, D = (numB tch).map b8 := ⟨_, rfl⟩
  have hk : k [.a (rtx D), .s (.v (.int .i64 0))] := by rw [hD]; exact hk
  conv => cbv
  refine callS tch _ D _ _ _ _ hΓ thIch hch hD ?_
  conv => cbv
  exact hk
 have g0 := cNeq har (a := f) (b := 0) h
 rw [if_neg g0] at hk
 conv => cbv
 refine ⟨fun h => ?_, fun h => ?_⟩
 ·have g := cEq har (a := f) (b := 1) h
  rw [if_pos g] at hk
  obtain ⟨D, hD⟩ : ∃ D, D = (numB tno).map b8 := ⟨_, rfl⟩
  have hk : k [.a (rtx D), .s (.v (.int .i64 0))] := by rw [hD]; exact hk
  conv => cbv
  refine callS tno _ D _ _ _ _ hΓ thIno hno hD ?_
  conv => cbv
  exact hk
 have g1 := cNeq har (a := f) (b := 1) h
 rw [if_neg g1] at hk
 conv => cbv
 refine ⟨fun h => ?_, fun h => ?_⟩
 ·have g := cEq har (a := f) (b := 5) h
  rw [if_pos g] at hk
  obtain ⟨D, hD⟩ : ∃ D, D = (numB tga).map b8 := ⟨_, rfl⟩
  have hk : k [.a (rtx D), .s (.v (.int .i64 0))] := by rw [hD]; exact hk
  conv => cbv
  refine callS tga _ D _ _ _ _ hΓ thIga hga hD ?_
  conv => cbv
  exact hk
 have g5 := cNeq har (a := f) (b := 5) h
 rw [if_neg g5] at hk
 conv => cbv
 refine ⟨fun h => ?_, fun h => ?_⟩
 ·have g := cEq har (a := f) (b := 6) h
  rw [if_pos g] at hk
  cases tcr with
  | true =>
   rw [if_pos rfl] at hk
   have hk : k [.a (rtx []), .s (.v (.int .i64 0))] := hk
   conv => cbv
   refine onT rfl ?_
   conv => cbv
   refine callX [] [] [] [] _ _ _ _ hΓ rfl rfl (by simp) ?_
   conv => cbv
   exact hk
  | false =>
   rw [if_neg (by decide)] at hk
   obtain ⟨D, hD⟩ : ∃ D, D = tto.map b8 := ⟨_, rfl⟩
   have hk : k [.a (rtx D), .s (.v (.int .i64 0))] := by rw [hD]; exact hk
   conv => cbv
   refine onF rfl ?_
   conv => cbv
   refine callX D [] tto _ _ _ _ _ hΓ (by rw [hD]; exact hcells) hD htl ?_
   conv => cbv
   exact hk
 have g6 := cNeq har (a := f) (b := 6) h
 rw [if_neg g6] at hk
 conv => cbv
 refine ⟨fun h => ?_, fun h => ?_⟩
 ·have g := cEq har (a := f) (b := 8) h
  rw [if_pos g] at hk
  have hk : k [.a (rtx tD), .s (.v (.int .i64 0))] := by rw [thD]; exact hk
  conv => cbv
  refine callX tD tsd td _ _ _ _ _ hΓ rfl (by rw [thD]; rfl) hdl ?_
  conv => cbv
  exact hk
 have g8 := cNeq har (a := f) (b := 8) h
 rw [if_neg g8] at hk
 conv => cbv
 refine ⟨fun h => ?_, fun h => ?_⟩
 ·have g := cEq har (a := f) (b := 9) h
  rw [if_pos g] at hk
  rw [haR, ← hae] at hk
  conv => cbv
  refine callA _ _ _ _ hΓ ?_
  conv => cbv
  exact hk
 have g9 := cNeq har (a := f) (b := 9) h
 rw [if_neg g9] at hk
 conv => cbv
 refine ⟨fun h => ?_, fun h => ?_⟩
 ·have g := cEq har (a := f) (b := 11) h
  rw [if_pos g] at hk
  conv => cbv
  refine .inr ⟨{ q : Nat × Int × List (List PS) // q.1 ≤ tbl.length ∧ q.2.1 = q.1 ∧ q.2.2 = rowsOf (ksIts (tbl.take q.1)) },
   fun q => ⟨mk 74 [(4, .s (.ptr 1 0)), (5, .s (.lit .i64 0)), (6, .s (.own 2)), (48, .s (.p (.sl tB tsbl))), (49, pint (ar.len tB)), (50, pint q.1.2.1)], [.gone, .box [.c (.bl false), .c .nil, .c .nil], .arr q.1.2.2 52 3 56 true]⟩,
   fun q => tbl.length - q.1.1, [.slot 6 52], _, ⟨(0, 0, []), Nat.zero_le _, rfl, rfl⟩, rfl, ?_, ?_⟩
  ·conv => cbv
   simp
  ·rintro ⟨⟨p, pi, Z⟩, hq⟩
   have hp : p ≤ tbl.length := hq.1
   have hpi : pi = (p : Int) := hq.2.1
   have hZ : Z = rowsOf (ksIts (tbl.take p)) := hq.2.2
   dsimp only
   conv => cbv
   refine ⟨fun h => ?_, fun h => ?_⟩
   ·have g := cLt har (b := ar.len tB) h
    have hlt : p < tbl.length := by omega
    obtain ⟨x, hx⟩ : ∃ x, tbl[p]? = some x := ⟨_, List.getElem?_eq_getElem hlt⟩
    have hxl := hbl x (List.mem_of_getElem? hx)
    obtain ⟨V, hV⟩ : ∃ V, V = u8s x := ⟨_, rfl⟩
    obtain ⟨D, hD⟩ : ∃ D, D = x.map b8 := ⟨_, rfl⟩
    have rx : tB[pi.toNat]? = some [.r 32 V] := by rw [thB, hpi, hV]; simp [hx, key]
    have hc2 : ar.cells V = D := by rw [hV, hD]; exact bytes_cells ar har x
    have hZl : Z.length = p := by rw [hZ, rowsOf_length, ksIts, List.length_map, List.length_take]; omega
    have hZ2 : ar.app Z [rtx D] = rowsOf (ksIts (tbl.take (p + 1))) := by
     rw [appIs har, hZ, take_succ_get hx, show ksIts (tbl.take p ++ [x]) = ksIts (tbl.take p) ++ [It.txt x] from by simp [ksIts], rowsOf_append, hD]; rfl
    have s1 : (Z.length + 1) * 56 ≤ 140737488355328 ∧ ∀ y ∈ [rtx D], rlen y = 3 := ⟨by omega, fun y hy => by rw [List.mem_singleton] at hy; subst hy; rfl⟩
    conv => cbv
    refine ⟨_, by omega, rx, rfl, ?_⟩
    conv => cbv
    refine callX D [] x _ _ _ _ _ hΓ hc2 hD (by omega) ?_
    conv => cbv
    refine ⟨fun _ => s1, ?_⟩
    refine ⟨⟨(p + 1, ar.ib .add .i64 pi 1, ar.app Z [rtx D]), hlt, iSucc har hpi (by omega), hZ2⟩, ?_, ?_⟩
    ·dsimp only
     conv => cbv
     simp
    ·show tbl.length - (p + 1) < tbl.length - p
     omega
   ·have g := cNlt har (b := ar.len tB) h
    have hpe : p = tbl.length := by omega
    have hZe : Z = rowsOf (ksIts tbl) := by rw [hZ, hpe, List.take_length]
    have hk : k [.a [.c (.v (.bool true)), .c (.sl [] []), .c (.sl Z [])], .s (.v (.int .i64 0))] := by rw [hZe]; exact hk
    conv => cbv
    refine callL Z (ksIts tbl) _ _ _ _ hΓ (strips_ks _) hZe (by omega) ?_
    conv => cbv
    exact hk
 have g11 := cNeq har (a := f) (b := 11) h
 rw [if_neg g11] at hk
 conv => cbv
 refine ⟨fun h => ?_, fun h => ?_⟩
 ·have g := cEq har (a := f) (b := 12) h
  rw [if_pos g] at hk
  rw [huR, ← hue] at hk
  conv => cbv
  refine callU _ _ _ _ hΓ ?_
  conv => cbv
  exact hk
 have g12 := cNeq har (a := f) (b := 12) h
 rw [if_neg g12] at hk
 conv => cbv
 refine call_inN har hΓ Tryd.func64 rfl fun Γ1 hΓ1 vs1 => ?_
 have hNf := hN f
 have hnf := hnum f
 rw [hNf] at hk hnf
 conv => cbv
 refine ⟨fun h => ?_, fun h => ?_⟩
 ·have g := cEq har (a := f) (b := 2) h
  rw [if_pos g] at hk hnf
  have hn : tpr < M256 := hnf
  obtain ⟨D, hD⟩ : ∃ D, D = (numB tpr).map b8 := ⟨_, rfl⟩
  have hk : k [.a (rtx D), .s (.v (.int .i64 0))] := by rw [hD]; exact hk
  conv => cbv
  refine callN tpr _ D _ _ _ _ hΓ thWpr hn hD ?_
  conv => cbv
  exact hk
 have g2 := cNeq har (a := f) (b := 2) h
 rw [if_neg g2] at hk hnf
 conv => cbv
 refine ⟨fun h => ?_, fun h => ?_⟩
 ·have g := cEq har (a := f) (b := 3) h
  rw [if_pos g] at hk hnf
  have hn : tti < M256 := hnf
  obtain ⟨D, hD⟩ : ∃ D, D = (numB tti).map b8 := ⟨_, rfl⟩
  have hk : k [.a (rtx D), .s (.v (.int .i64 0))] := by rw [hD]; exact hk
  conv => cbv
  refine callN tti _ D _ _ _ _ hΓ thWti hn hD ?_
  conv => cbv
  exact hk
 have g3 := cNeq har (a := f) (b := 3) h
 rw [if_neg g3] at hk hnf
 conv => cbv
 refine ⟨fun h => ?_, fun h => ?_⟩
 ·have g := cEq har (a := f) (b := 4) h
  rw [if_pos g] at hk hnf
  have hn : tca < M256 := hnf
  obtain ⟨D, hD⟩ : ∃ D, D = (numB tca).map b8 := ⟨_, rfl⟩
  have hk : k [.a (rtx D), .s (.v (.int .i64 0))] := by rw [hD]; exact hk
  conv => cbv
  refine callN tca _ D _ _ _ _ hΓ thWca hn hD ?_
  conv => cbv
  exact hk
 have g4 := cNeq har (a := f) (b := 4) h
 rw [if_neg g4] at hk hnf
 conv => cbv
 refine ⟨fun h => ?_, fun h => ?_⟩
 ·have g := cEq har (a := f) (b := 7) h
  rw [if_pos g] at hk hnf
  have hn : tva < M256 := hnf
  obtain ⟨D, hD⟩ : ∃ D, D = (numB tva).map b8 := ⟨_, rfl⟩
  have hk : k [.a (rtx D), .s (.v (.int .i64 0))] := by rw [hD]; exact hk
  conv => cbv
  refine callN tva _ D _ _ _ _ hΓ thWva hn hD ?_
  conv => cbv
  exact hk
 have g7 := cNeq har (a := f) (b := 7) h
 rw [if_neg g7] at hk hnf
 conv => cbv
 refine ⟨fun h => ?_, fun h => ?_⟩
 ·have g := cEq har (a := f) (b := 10) h
  rw [if_pos g] at hk hnf
  have hn : tbc < M256 := hnf
  obtain ⟨D, hD⟩ : ∃ D, D = (numB tbc).map b8 := ⟨_, rfl⟩
  have hk : k [.a (rtx D), .s (.v (.int .i64 0))] := by rw [hD]; exact hk
  conv => cbv
  refine callN tbc _ D _ _ _ _ hΓ thWbc hn hD ?_
  conv => cbv
  exact hk
 have g10 := cNeq har (a := f) (b := 10) h
 rw [if_neg g10] at hk hnf
 conv => cbv
 refine ⟨fun h => ?_, fun h => ?_⟩
 ·have g := cEq har (a := f) (b := 13) h
  rw [if_pos g] at hk hnf
  have hn : tv < M256 := hnf
  obtain ⟨D, hD⟩ : ∃ D, D = (numB tv).map b8 := ⟨_, rfl⟩
  have hk : k [.a (rtx D), .s (.v (.int .i64 0))] := by rw [hD]; exact hk
  conv => cbv
  refine callN tv _ D _ _ _ _ hΓ thWv hn hD ?_
  conv => cbv
  exact hk
 have g13 := cNeq har (a := f) (b := 13) h
 rw [if_neg g13] at hk hnf
 conv => cbv
 refine ⟨fun h => ?_, fun h => ?_⟩
 ·have g := cEq har (a := f) (b := 14) h
  rw [if_pos g] at hk hnf
  have hn : tr < M256 := hnf
  obtain ⟨D, hD⟩ : ∃ D, D = (numB tr).map b8 := ⟨_, rfl⟩
  have hk : k [.a (rtx D), .s (.v (.int .i64 0))] := by rw [hD]; exact hk
  conv => cbv
  refine callN tr _ D _ _ _ _ hΓ thWr hn hD ?_
  conv => cbv
  exact hk
 have g14 := cNeq har (a := f) (b := 14) h
 rw [if_neg g14] at hk hnf
 have hn : ts < M256 := hnf
 obtain ⟨D, hD⟩ : ∃ D, D = (numB ts).map b8 := ⟨_, rfl⟩
 have hk : k [.a (rtx D), .s (.v (.int .i64 0))] := by rw [hD]; exact hk
 conv => cbv
 refine callN ts _ D _ _ _ _ hΓ thWs hn hD ?_
 conv => cbv
 exact hk
end Go.Eng
namespace Go.Eng
open Go Go.Proofs
set_option maxRecDepth 100000
set_option maxHeartbeats 8000000
set_option linter.unusedVariables false
theorem us_dep : ∀ us : List Au, depths (usIts us) ≤ 1
 | [] => Nat.zero_le _
 | u :: us => by
  have h1 := us_dep us
  have h2 : dep u.it = 1 := rfl
  show max (dep u.it) (depths (usIts us)) ≤ 1
  omega
theorem ks_dep : ∀ l : List (List Int), depths (ksIts l) = 0
 | [] => rfl
 | w :: l => by
  show max (dep (It.txt w)) (depths (ksIts l)) = 0
  rw [ks_dep l]; rfl
theorem es_dep : ∀ es : List Ent, depths (esIts es) ≤ 2
 | [] => Nat.zero_le _
 | e :: es => by
  have h1 := es_dep es
  have h2 : dep e.it ≤ 2 := by
   show max (dep (It.txt e.a)) (max (dep (It.lst (ksIts e.ks))) 0) + 1 ≤ 2
   have h3 : dep (It.lst (ksIts e.ks)) = depths (ksIts e.ks) + 1 := rfl
   have h4 : dep (It.txt e.a) = 0 := rfl
   have := ks_dep e.ks
   omega
  show max (dep e.it) (depths (esIts es)) ≤ 2
  omega
theorem fitP_cases (it : It) : (fitP it).1 = it ∨ (fitP it).1 = .zero := by unfold fitP; split; exact .inl rfl; exact .inr rfl
theorem itemP_facts {t : Tx} (ho : t.ok) (hf : t.fit) (f : Int) : (itemP t f).1.strip = (itemP t f).1 ∧ (itemP t f).1.bulk ≤ 268435457 ∧ dep (itemP t f).1 ≤ 3 := by
 have num : ∀ n, n < M256 → (numIt n).strip = numIt n ∧ (numIt n).bulk ≤ 268435457 ∧ dep (numIt n) ≤ 3 := fun n hn => by
  have := numB_len hn
  refine ⟨rfl, ?_, Nat.zero_le _⟩
  simp only [numIt, It.txt, It.bulk, bulks]; omega
 have n64 : ∀ n, n < 18446744073709551616 → n < M256 := fun n hn => Nat.lt_trans hn (by decide)
 have txt : ∀ d : List Int, d.length ≤ 2 ^ 28 → (It.txt d).strip = It.txt d ∧ (It.txt d).bulk ≤ 268435457 ∧ dep (It.txt d) ≤ 3 := fun d hd => by
  refine ⟨rfl, ?_, Nat.zero_le _⟩
  simp only [It.txt, It.bulk, bulks]; omega
 have lst : ∀ its, strips its = its → bulks its ≤ 2 ^ 28 → depths its ≤ 2 → (It.lst its).strip = It.lst its ∧ (It.lst its).bulk ≤ 268435457 ∧ dep (It.lst its) ≤ 3 := fun its h1 h2 h3 => by
  refine ⟨by rw [strip_lst, h1], ?_, ?_⟩
  ·simp only [It.lst, It.bulk, List.length_nil]; omega
  ·show depths its + 1 ≤ 3; omega
 have zer : It.zero.strip = It.zero ∧ It.zero.bulk ≤ 268435457 ∧ dep It.zero ≤ 3 := ⟨rfl, by decide, by decide⟩
 have fit : ∀ it : It, it.strip = it ∧ it.bulk ≤ 268435457 ∧ dep it ≤ 3 → (fitP it).1.strip = (fitP it).1 ∧ (fitP it).1.bulk ≤ 268435457 ∧ dep (fitP it).1 ≤ 3 := fun it h => by
  rcases fitP_cases it with e | e <;> rw [e]
  ·exact h
  ·exact zer
 have hub := us_bulk t.au fun u hu => (ho.au u hu).1
 have hkb := ks_bulk t.bl fun w hw => (ho.bl w hw).1
 have h1 := hf.au
 have h2 := hf.bl
 have h3 := hf.ac
 unfold itemP
 split
 ·exact num _ (n64 _ ho.ch)
 ·split
  ·exact num _ (n64 _ ho.no)
  ·split
   ·exact num _ (n64 _ ho.ga)
   ·split
    ·refine txt _ ?_
     split
     ·simp
     ·rw [ho.to]; decide
    ·split
     ·exact txt _ hf.d
     ·split
      ·exact fit _ (lst _ (strips_es _) (by omega) (es_dep _))
      ·split
       ·exact lst _ (strips_ks _) (by omega) (by rw [ks_dep]; omega)
       ·split
        ·split
         ·exact zer
         ·exact fit _ (lst _ (strips_us _) (by omega) (by have := us_dep t.au; omega))
        ·exact num _ (numF_lt ho f)
def itsL (t : Tx) (fs : List Int) : List It := fs.map fun f => (itemP t f).1
def itsR (t : Tx) (fs : List Int) : List It × Int :=
 match fs.find? fun f => decide ((itemP t f).2 ≠ 0) with
 | some f => ([], (itemP t f).2)
 | none => if errOf (It.lst (itsL t fs)) = 0 then (itsL t fs, 0) else ([], errOf (It.lst (itsL t fs)))
theorem itsL_facts {t : Tx} (ho : t.ok) (hf : t.fit) : ∀ fs : List Int, strips (itsL t fs) = itsL t fs ∧ bulks (itsL t fs) ≤ fs.length * 268435457 ∧ depths (itsL t fs) ≤ 3
 | [] => ⟨rfl, Nat.zero_le _, Nat.zero_le _⟩
 | f :: fs => by
  obtain ⟨h1, h2, h3⟩ := itsL_facts ho hf fs
  obtain ⟨g1, g2, g3⟩ := itemP_facts ho hf f
  show (itemP t f).1.strip :: strips (itsL t fs) = (itemP t f).1 :: itsL t fs ∧ (itemP t f).1.bulk + bulks (itsL t fs) ≤ (fs.length + 1) * 268435457 ∧ max (dep (itemP t f).1) (depths (itsL t fs)) ≤ 3
  rw [h1, g1]
  exact ⟨rfl, by omega, by omega⟩
theorem items_sound : Sound Tryd.prog 20 fun args k => ∃ (t : Tx) (fs : List Int) (s : List (List PS)), args = [.a t.row, .s (.sl (fs.map irow) s)] ∧ t.ok ∧ t.fit ∧ fs.length ≤ 20 ∧ k [.s (.sl (rowsOf (itsR t fs).1) []), .s (.v (.int .i64 (itsR t fs).2))] := by
 refine Sound.of_body tt_ok ent_ok Tryd.func20 rfl ?_
 rintro ar har Γ hΓ args k ⟨⟨tty, tch, tno, tpr, tti, tca, tga, tcr, tto, tva, td, tsd, tac, tsac, tbc, tbl, tsbl, tau, tsau, tv, tr, ts⟩, fs, s, hargs, hto, hft, hfl, hk⟩
 obtain ⟨t, ht⟩ : ∃ t, t = Tx.mk tty tch tno tpr tti tca tga tcr tto tva td tsd tac tsac tbc tbl tsbl tau tsau tv tr ts := ⟨_, rfl⟩
 obtain ⟨tWpr, thWpr⟩ : ∃ x, x = w4 tpr := ⟨_, rfl⟩
 obtain ⟨tWti, thWti⟩ : ∃ x, x = w4 tti := ⟨_, rfl⟩
 obtain ⟨tWca, thWca⟩ : ∃ x, x = w4 tca := ⟨_, rfl⟩
 obtain ⟨tWva, thWva⟩ : ∃ x, x = w4 tva := ⟨_, rfl⟩
 obtain ⟨tWbc, thWbc⟩ : ∃ x, x = w4 tbc := ⟨_, rfl⟩
 obtain ⟨tWv, thWv⟩ : ∃ x, x = w4 tv := ⟨_, rfl⟩
 obtain ⟨tWr, thWr⟩ : ∃ x, x = w4 tr := ⟨_, rfl⟩
 obtain ⟨tWs, thWs⟩ : ∃ x, x = w4 ts := ⟨_, rfl⟩
 obtain ⟨tWto, thWto⟩ : ∃ x, x = u8s tto := ⟨_, rfl⟩
 obtain ⟨tD, thD⟩ : ∃ x, x = td.map b8' := ⟨_, rfl⟩
 obtain ⟨tA, thA⟩ : ∃ x, x = tac.map Ent.row := ⟨_, rfl⟩
 obtain ⟨tB, thB⟩ : ∃ x, x = tbl.map key := ⟨_, rfl⟩
 obtain ⟨tU, thU⟩ : ∃ x, x = tau.map Au.row := ⟨_, rfl⟩
 obtain ⟨tIch, thIch⟩ : ∃ x : Int, x = (tch : Int) := ⟨_, rfl⟩
 obtain ⟨tIno, thIno⟩ : ∃ x : Int, x = (tno : Int) := ⟨_, rfl⟩
 obtain ⟨tIga, thIga⟩ : ∃ x : Int, x = (tga : Int) := ⟨_, rfl⟩
 have hrow : t.row = [.c (.v (.int .i64 tty)), .c (.v (.int .u64 tIch)), .c (.v (.int .u64 tIno)), .r 4 tWpr, .r 4 tWti, .r 4 tWca, .c (.v (.int .u64 tIga)), .c (.v (.bool tcr)), .r 20 tWto, .r 4 tWva, .c (.sl tD tsd), .c (.sl tA tsac), .r 4 tWbc, .c (.sl tB tsbl), .c (.sl tU tsau), .r 4 tWv, .r 4 tWr, .r 4 tWs] := by rw [ht]; exact (by rw [thWpr, thWti, thWca, thWva, thWbc, thWv, thWr, thWs, thWto, thD, thA, thB, thU, thIch, thIno, thIga]; rfl)
 rw [← ht] at hargs hto hft hk
 obtain ⟨X, hX⟩ : ∃ X, X = fs.map irow := ⟨_, rfl⟩
 have hXl : ar.len X = (fs.length : Int) := by rw [lenIs har, hX, List.length_map]
 have callI : ∀ (f : Int) (a : Bool) (b1 b2 c1 c2 : List (List PS)) (e : Int) (Γ : Ctx) (d' : Nat) (k : List PR → Prop) (R : Prop), Γ = ctx Tryd.prog d' → (itemP t f).1.row = [.c (.v (.bool a)), .c (.sl b1 b2), .c (.sl c1 c2)] → (itemP t f).2 = e → k [.a [.c (.v (.bool a)), .c (.sl b1 b2), .c (.sl c1 c2)], .s (.v (.int .i64 e))] → Γ.g 39 [.a [.c (.v (.int .i64 tty)), .c (.v (.int .u64 tIch)), .c (.v (.int .u64 tIno)), .r 4 tWpr, .r 4 tWti, .r 4 tWca, .c (.v (.int .u64 tIga)), .c (.v (.bool tcr)), .r 20 tWto, .r 4 tWva, .c (.sl tD tsd), .c (.sl tA tsac), .r 4 tWbc, .c (.sl tB tsbl), .c (.sl tU tsau), .r 4 tWv, .r 4 tWr, .r 4 tWs], .s (.v (.int .i64 f))] k ∨ R := fun f a b1 b2 c1 c2 e Γ d' k R hΓ h1 h2 hk => call_by hΓ item_sound ⟨t, f, by rw [hrow], hto, hft, by rw [h1, h2]; exact hk⟩
 obtain ⟨hst, hbk, hdp⟩ := itsL_facts hto hft fs
 obtain ⟨its, hits⟩ : ∃ x, x = itsL t fs := ⟨_, rfl⟩
 rw [← hits] at hst hbk hdp
 have hbk2 : bulks its ≤ 2 ^ 40 := by
  have : fs.length * 268435457 ≤ 20 * 268435457 := Nat.mul_le_mul_right _ hfl
  omega
 obtain ⟨er, her⟩ : ∃ z : Int, z = (errOf (It.lst its) : Nat) := ⟨_, rfl⟩
 have callL : ∀ (J : List (List PS)) (Γ : Ctx) (d' : Nat) (k : List PR → Prop) (R : Prop), Γ = ctx Tryd.prog d' → J = rowsOf its → k [.a [.c (.v (.bool true)), .c (.sl [] []), .c (.sl J [])]] → Γ.g 14 [.s (.sl J [])] k ∨ R := fun J Γ d' k R hΓ hJ hk => call_by hΓ list_sound ⟨its, [], by rw [hJ], hbk2, by rw [hst]; rw [hJ] at hk; exact hk⟩
 have callS : ∀ (J : List (List PS)) (Γ : Ctx) (d' : Nat) (k : List PR → Prop) (R : Prop), Γ = ctx Tryd.prog d' → J = rowsOf its → (∀ z, k [.s (.v (.int .i64 z)), .s (.v (.int .i64 er))]) → Γ.g 40 [.a [.c (.v (.bool true)), .c (.sl [] []), .c (.sl J [])]] k ∨ R := fun J Γ d' k R hΓ hJ hk => call_by hΓ rsize_sound ⟨It.lst its, by rw [hJ]; rfl, by simp only [It.lst, It.bulk, List.length_nil]; have : fs.length * 268435457 ≤ 20 * 268435457 := Nat.mul_le_mul_right _ hfl; omega, by rw [← her]; exact hk _⟩
 have hbad : ∀ f, (fs.find? fun f => decide ((itemP t f).2 ≠ 0)) = some f → k [.s (.sl [] []), .s (.v (.int .i64 (itemP t f).2))] := fun f h => by
  simp only [itsR, h] at hk; exact hk
 have hgood : (fs.find? fun f => decide ((itemP t f).2 ≠ 0)) = none → er = 0 → k [.s (.sl (rowsOf its) []), .s (.v (.int .i64 0))] := fun h h2 => by
  simp only [itsR, h, ← hits] at hk
  rw [if_pos (by omega)] at hk; exact hk
 have hlong : (fs.find? fun f => decide ((itemP t f).2 ≠ 0)) = none → er ≠ 0 → k [.s (.sl [] []), .s (.v (.int .i64 er))] := fun h h2 => by
  simp only [itsR, h, ← hits] at hk
  rw [if_neg (by omega), ← her] at hk; exact hk
 rw [← hX, hrow] at hargs
 clear hk ht
 subst hargs
 conv => cbv
 refine .inr ⟨{ q : Nat × Int × List (List PS) // q.1 ≤ fs.length ∧ q.2.1 = q.1 ∧ q.2.2 = rowsOf (itsL t (fs.take q.1)) ∧ ∀ f ∈ fs.take q.1, (itemP t f).2 = 0 },
  fun q => ⟨mk 43 [(2, .s (.ptr 0 0)), (4, .s .nil), (5, .s (.lit .i64 0)), (6, .s (.own 1)), (13, .s (.p (.sl X s))), (14, pint (ar.len X)), (15, pint q.1.2.1)], [.box [.c (.p (.v (.int .i64 tty))), .c (.p (.v (.int .u64 tIch))), .c (.p (.v (.int .u64 tIno))), .r 4 tWpr, .r 4 tWti, .r 4 tWca, .c (.p (.v (.int .u64 tIga))), .c (.p (.v (.bool tcr))), .r 20 tWto, .r 4 tWva, .c (.p (.sl tD tsd)), .c (.p (.sl tA tsac)), .r 4 tWbc, .c (.p (.sl tB tsbl)), .c (.p (.sl tU tsau)), .r 4 tWv, .r 4 tWr, .r 4 tWs], .arr q.1.2.2 52 3 56 true]⟩,
  fun q => fs.length - q.1.1, [.slot 6 52], _, ⟨(0, 0, []), Nat.zero_le _, rfl, rfl, by simp⟩, rfl, ?_, ?_⟩
 ·conv => cbv
  simp
 ·rintro ⟨⟨p, pi, Z⟩, hq⟩
  have hp : p ≤ fs.length := hq.1
  have hpi : pi = (p : Int) := hq.2.1
  have hZ : Z = rowsOf (itsL t (fs.take p)) := hq.2.2.1
  have hall : ∀ f ∈ fs.take p, (itemP t f).2 = 0 := hq.2.2.2
  dsimp only
  conv => cbv
  refine ⟨fun h => ?_, fun h => ?_⟩
  ·have g := cLt har (b := ar.len X) h
   have hlt : p < fs.length := by omega
   obtain ⟨f, hf⟩ : ∃ x, fs[p]? = some x := ⟨_, List.getElem?_eq_getElem hlt⟩
   have rx : X[pi.toNat]? = some [.c (.v (.int .i64 f))] := by rw [hX, hpi]; simp [hf, irow]
   obtain ⟨a, ⟨b1, b2⟩, ⟨c1, c2⟩, hA⟩ := row3 (itemP t f).1
   obtain ⟨e, he⟩ : ∃ e, (itemP t f).2 = e := ⟨_, rfl⟩
   have hZl : Z.length = p := by rw [hZ, rowsOf_length, itsL, List.length_map, List.length_take]; omega
   have hZ2 : ar.app Z [[.c (.v (.bool a)), .c (.sl b1 b2), .c (.sl c1 c2)]] = rowsOf (itsL t (fs.take (p + 1))) := by
    rw [appIs har, hZ, take_succ_get hf, show itsL t (fs.take p ++ [f]) = itsL t (fs.take p) ++ [(itemP t f).1] from by simp [itsL], rowsOf_append, rowsOf, rowsOf, hA]
   have s1 : (Z.length + 1) * 56 ≤ 140737488355328 ∧ ∀ y ∈ [[PS.c (.v (.bool a)), .c (.sl b1 b2), .c (.sl c1 c2)]], rlen y = 3 := ⟨by omega, fun y hy => by rw [List.mem_singleton] at hy; subst hy; rfl⟩
   conv => cbv
   refine ⟨_, by omega, rx, rfl, ?_⟩
   conv => cbv
   refine callI f a b1 b2 c1 c2 e _ _ _ _ hΓ hA he ?_
   conv => cbv
   refine ⟨fun h => ?_, fun h => ?_⟩
   ·have g2 := cNe har (a := e) (b := 0) h
    have hk := hbad f (by
     have hsp : fs = fs.take p ++ f :: fs.drop (p + 1) := by
      obtain ⟨hlt, e⟩ := List.getElem?_eq_some_iff.1 hf
      rw [← e, List.getElem_cons_drop, List.take_append_drop]
     rw [hsp, List.find?_append, List.find?_eq_none.2 (fun y hy => by simp [hall y hy]), Option.none_or, List.find?_cons_of_pos (by simp [he, g2])])
    rw [he] at hk
    conv => cbv
    exact hk
   ·have g2 := cNne har (a := e) (b := 0) h
    have hall2 : ∀ f ∈ fs.take (p + 1), (itemP t f).2 = 0 := fun y hy => by
     rw [take_succ_get hf, List.mem_append, List.mem_singleton] at hy
     rcases hy with hy | rfl
     ·exact hall y hy
     ·rw [he, g2]
    conv => cbv
    refine ⟨fun _ => s1, ?_⟩
    refine ⟨⟨(p + 1, ar.ib .add .i64 pi 1, ar.app Z [[.c (.v (.bool a)), .c (.sl b1 b2), .c (.sl c1 c2)]]), hlt, iSucc har hpi (by omega), hZ2, hall2⟩, ?_, ?_⟩
    ·dsimp only
     conv => cbv
     simp
    ·show fs.length - (p + 1) < fs.length - p
     omega
  ·have g := cNlt har (b := ar.len X) h
   have hpe : p = fs.length := by omega
   rw [hpe, List.take_length] at hall
   have hnone : (fs.find? fun f => decide ((itemP t f).2 ≠ 0)) = none := List.find?_eq_none.2 fun y hy => by simp [hall y hy]
   have hZe : Z = rowsOf its := by rw [hZ, hpe, List.take_length, hits]
   conv => cbv
   refine callL Z _ _ _ _ hΓ hZe ?_
   conv => cbv
   refine callS Z _ _ _ _ hΓ hZe fun z => ?_
   conv => cbv
   refine ⟨fun h => ?_, fun h => ?_⟩
   ·have g2 := cNe har (a := er) (b := 0) h
    have hk := hlong hnone g2
    conv => cbv
    exact hk
   ·have g2 := cNne har (a := er) (b := 0) h
    have hk := hgood hnone g2
    rw [← hZe] at hk
    conv => cbv
    exact hk
end Go.Eng
