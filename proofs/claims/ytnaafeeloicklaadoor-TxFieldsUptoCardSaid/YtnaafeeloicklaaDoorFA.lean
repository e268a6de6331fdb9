/-
  tx.rowOf; slices.Index, Contains, IndexFunc, ContainsFunc as tx asks them. Condition: at most 2^40 elements.
  tx.absent. No condition but the parts' ranges.
  tx.fits. Condition: at most 2^36 elements in each list.
-/
import Derived.Test.YtnaafeeloicklaaDoorRD
import Derived.Test.YtnaafeeloicklaaDoorUA
namespace Go.Eng
open Go Go.Proofs
set_option maxRecDepth 100000
set_option maxHeartbeats 4000000
set_option linter.unusedVariables false

def irow (x : Int) : List PS := [.c (.v (.int .i64 x))]
/-- The fields of a type. -/
def txFs (ty : Int) : List Int :=
  if ty = 0 then [1, 2, 5, 6, 7, 8, 13, 14, 15] else if ty = 1 then [0, 1, 2, 5, 6, 7, 8, 9, 13, 14, 15] else if ty = 2 then [0, 1, 3, 4, 5, 6, 7, 8, 9, 13, 14, 15] else if ty = 3 then [0, 1, 3, 4, 5, 6, 7, 8, 9, 10, 11, 13, 14, 15] else [0, 1, 3, 4, 5, 6, 7, 8, 9, 12, 13, 14, 15]

theorem rowOf_sound : Sound Tryd.prog 25 fun args k => ∃ ty : Int, args = [.s (.v (.int .i64 ty))] ∧ k [.s (.sl ((txFs ty).map irow) [])] := by
  refine Sound.of_body tt_ok ent_ok Tryd.func25 rfl ?_
  rintro ar har Γ hΓ args k ⟨ty, hargs, hk⟩
  subst hargs
  conv => cbv
  refine ⟨fun h => ?_, fun h => ?_⟩
  · have g := cEq har (a := ty) (b := 0) h
    rw [txFs, if_pos g] at hk
    conv => cbv
    exact hk
  have g0 := cNeq har (a := ty) (b := 0) h
  conv => cbv
  refine ⟨fun h => ?_, fun h => ?_⟩
  · have g := cEq har (a := ty) (b := 1) h
    rw [txFs, if_neg g0, if_pos g] at hk
    conv => cbv
    exact hk
  have g1 := cNeq har (a := ty) (b := 1) h
  conv => cbv
  refine ⟨fun h => ?_, fun h => ?_⟩
  · have g := cEq har (a := ty) (b := 2) h
    rw [txFs, if_neg g0, if_neg g1, if_pos g] at hk
    conv => cbv
    exact hk
  have g2 := cNeq har (a := ty) (b := 2) h
  conv => cbv
  refine ⟨fun h => ?_, fun h => ?_⟩
  · have g := cEq har (a := ty) (b := 3) h
    rw [txFs, if_neg g0, if_neg g1, if_neg g2, if_pos g] at hk
    conv => cbv
    exact hk
  have g3 := cNeq har (a := ty) (b := 3) h
  rw [txFs, if_neg g0, if_neg g1, if_neg g2, if_neg g3] at hk
  conv => cbv
  exact hk

theorem index_sound : Sound Tryd.prog 80 fun args k => ∃ (l : List Int) (f : Int) (s : List (List PS)), args = [.s (.sl (l.map irow) s), .s (.v (.int .i64 f))] ∧ l.length ≤ 2 ^ 40 ∧ ∀ z : Int, (0 ≤ z ↔ f ∈ l) → k [.s (.v (.int .i64 z))] := by
  refine Sound.of_body tt_ok ent_ok Tryd.func80 rfl ?_
  rintro ar har Γ hΓ args k ⟨l, f, s, hargs, hl, hk⟩
  obtain ⟨X, hX⟩ : ∃ X, X = l.map irow := ⟨_, rfl⟩
  have hXl : ar.len X = (l.length : Int) := by rw [lenIs har, hX, List.length_map]
  rw [← hX] at hargs
  subst hargs
  conv => cbv
  refine .inr ⟨{ q : Nat × Int // q.1 ≤ l.length ∧ q.2 = q.1 ∧ f ∉ l.take q.1 },
    fun q => ⟨mk 19 [(0, .s (.p (.sl X s))), (1, pint f), (4, .s (.lit .i64 0)), (7, pint (ar.len X)), (8, pint q.1.2)], []⟩,
    fun q => l.length - q.1.1, [], _, ⟨(0, 0), Nat.zero_le _, rfl, by simp⟩, rfl, ?_, ?_⟩
  · conv => cbv
    simp
  · rintro ⟨⟨p, pi⟩, hq⟩
    have hp : p ≤ l.length := hq.1
    have hpi : pi = (p : Int) := hq.2.1
    have hno : f ∉ l.take p := hq.2.2
    dsimp only
    conv => cbv
    refine ⟨fun h => ?_, fun h => ?_⟩
    · have g := cLt har (b := ar.len X) h
      have hlt : p < l.length := by omega
      obtain ⟨x, hx⟩ : ∃ x, l[p]? = some x := ⟨_, List.getElem?_eq_getElem hlt⟩
      have rx : X[pi.toNat]? = some [.c (.v (.int .i64 x))] := by rw [hX, hpi]; simp [hx, irow]
      conv => cbv
      refine ⟨_, by omega, rx, rfl, ?_⟩
      conv => cbv
      refine ⟨fun h2 => ?_, fun h2 => ?_⟩
      · have h3 := cEq har (a := f) (b := x) h2
        have hk := hk pi ⟨fun _ => by rw [h3]; exact List.mem_of_getElem? hx, fun _ => by omega⟩
        conv => cbv
        exact hk
      · have h3 := cNeq har (a := f) (b := x) h2
        have hno2 : f ∉ l.take (p + 1) := by rw [take_succ_get hx, List.mem_append, List.mem_singleton]; rintro (h | h); exact hno h; exact h3 h
        conv => cbv
        refine ⟨⟨(p + 1, ar.ib .add .i64 pi 1), hlt, iSucc har hpi (by omega), hno2⟩, ?_, ?_⟩
        · dsimp only
          conv => cbv
          simp
        · show l.length - (p + 1) < l.length - p
          omega
    · have g := cNlt har (b := ar.len X) h
      have hpe : p = l.length := by omega
      have hk := hk (-1) ⟨fun h => by omega, fun h => by rw [hpe, List.take_length] at hno; exact absurd h hno⟩
      conv => cbv
      exact hk

theorem contains_sound : Sound Tryd.prog 57 fun args k => ∃ (l : List Int) (f : Int) (s : List (List PS)), args = [.s (.sl (l.map irow) s), .s (.v (.int .i64 f))] ∧ l.length ≤ 2 ^ 40 ∧ k [.s (.v (.bool (decide (f ∈ l))))] := by
  refine Sound.of_body tt_ok ent_ok Tryd.func57 rfl ?_
  rintro ar har Γ hΓ args k ⟨l, f, s, hargs, hl, hk⟩
  obtain ⟨X, hX⟩ : ∃ X, X = l.map irow := ⟨_, rfl⟩
  have callI : ∀ (Γ : Ctx) (d' : Nat) (k : List PR → Prop) (R : Prop), Γ = ctx Tryd.prog d' → (∀ z : Int, (0 ≤ z ↔ f ∈ l) → k [.s (.v (.int .i64 z))]) → Γ.g 80 [.s (.sl X s), .s (.v (.int .i64 f))] k ∨ R := fun Γ d' k R hΓ hk => call_by hΓ index_sound ⟨l, f, s, by rw [hX], hl, hk⟩
  rw [← hX] at hargs
  have hk : ∀ z : Int, (0 ≤ z ↔ f ∈ l) → k [.s (.v (.bool (ar.cb .geq z 0)))] := fun z hz => by
    have e : ar.cb .geq z 0 = decide (f ∈ l) := by
      rw [cIs har, Bool.eq_iff_iff, decide_eq_true_iff, ← hz]
      simp [intC]
    rw [e]; exact hk
  clear hX
  subst hargs
  conv => cbv
  refine callI _ _ _ _ hΓ fun z hz => ?_
  have hk := hk z hz
  conv => cbv
  exact hk

theorem noBlob_sound : Sound Tryd.prog 60 fun args k => ∃ w : List Int, args = [.a (key w)] ∧ w.length = 32 ∧ k [.s (.v (.bool (decide (w.getD 0 0 ≠ 1))))] := by
  refine Sound.of_body tt_ok ent_ok Tryd.func60 rfl ?_
  rintro ar har Γ hΓ args k ⟨w, hargs, hl, hk⟩
  obtain ⟨w0, wt, rfl⟩ : ∃ w0 wt, w = w0 :: wt := by
    cases w with
    | nil => cases hl
    | cons a b => exact ⟨a, b, rfl⟩
  obtain ⟨V, hV⟩ : ∃ V, V = u8s wt := ⟨_, rfl⟩
  have hrow : key (w0 :: wt) = [.r 32 (.int .u8 w0 :: V)] := by rw [hV]; rfl
  have e : ar.cb .neq w0 1 = decide ((w0 :: wt).getD 0 0 ≠ 1) := by
    rw [cIs har, Bool.eq_iff_iff, decide_eq_true_iff]
    simp [intC]
  rw [← e] at hk
  rw [hrow] at hargs
  subst hargs
  conv => cbv
  exact hk

theorem wide_sound : Sound Tryd.prog 39 fun args k => ∃ u : Au, args = [.a u.row] ∧ k [.s (.v (.bool (decide (255 < u.pa))))] := by
  refine Sound.of_body tt_ok ent_ok Tryd.func39 rfl ?_
  rintro ar har Γ hΓ args k ⟨⟨ch, a, no, pa, r, s⟩, hargs, hk⟩
  obtain ⟨x1, h1⟩ : ∃ x, x = w4 ch := ⟨_, rfl⟩
  obtain ⟨x2, h2⟩ : ∃ x, x = u8s a := ⟨_, rfl⟩
  obtain ⟨x3, h3⟩ : ∃ x : Int, x = (no : Int) := ⟨_, rfl⟩
  obtain ⟨x4, h4⟩ : ∃ x : Int, x = (pa : Int) := ⟨_, rfl⟩
  obtain ⟨x5, h5⟩ : ∃ x, x = w4 r := ⟨_, rfl⟩
  obtain ⟨x6, h6⟩ : ∃ x, x = w4 s := ⟨_, rfl⟩
  have hrow : (Au.mk ch a no pa r s).row = [.r 4 x1, .r 20 x2, .c (.v (.int .u64 x3)), .c (.v (.int .u64 x4)), .r 4 x5, .r 4 x6] := by rw [h1, h2, h3, h4, h5, h6]; rfl
  have e : ar.cb .gtr x4 255 = decide (255 < pa) := by
    rw [cIs har, Bool.eq_iff_iff, decide_eq_true_iff, h4]
    simp [intC]; omega
  rw [hrow] at hargs
  have hk : k [.s (.v (.bool (ar.cb .gtr x4 255)))] := by rw [e]; exact hk
  clear h1 h2 h3 h4 h5 h6 hrow e
  subst hargs
  conv => cbv
  exact hk

theorem hashIdxF_sound : Sound Tryd.prog 81 fun args k => ∃ (l : List (List Int)) (s : List (List PS)), args = [.s (.sl (l.map key) s), .s (.v (.func (.func 60) #[] #[]))] ∧ l.length ≤ 2 ^ 40 ∧ (∀ x ∈ l, x.length = 32) ∧ ∀ z : Int, (0 ≤ z ↔ ∃ x ∈ l, x.getD 0 0 ≠ 1) → k [.s (.v (.int .i64 z))] := by
  refine Sound.of_body tt_ok ent_ok Tryd.func81 rfl ?_
  rintro ar har Γ hΓ args k ⟨l, s, hargs, hl, hok, hk⟩
  obtain ⟨X, hX⟩ : ∃ X, X = l.map key := ⟨_, rfl⟩
  have hXl : ar.len X = (l.length : Int) := by rw [lenIs har, hX, List.length_map]
  rw [← hX] at hargs
  subst hargs
  conv => cbv
  refine .inr ⟨{ q : Nat × Int // q.1 ≤ l.length ∧ q.2 = q.1 ∧ ¬ ∃ x ∈ l.take q.1, x.getD 0 0 ≠ 1 },
    fun q => ⟨mk 19 [(0, .s (.p (.sl X s))), (1, .s (.p (.v (.func (.func 60) #[] #[])))), (4, .s (.lit .i64 0)), (7, pint (ar.len X)), (8, pint q.1.2)], []⟩,
    fun q => l.length - q.1.1, [], _, ⟨(0, 0), Nat.zero_le _, rfl, by simp⟩, rfl, ?_, ?_⟩
  · conv => cbv
    simp
  · rintro ⟨⟨p, pi⟩, hq⟩
    have hp : p ≤ l.length := hq.1
    have hpi : pi = (p : Int) := hq.2.1
    have hno : ¬ ∃ x ∈ l.take p, x.getD 0 0 ≠ 1 := hq.2.2
    dsimp only
    conv => cbv
    refine ⟨fun h => ?_, fun h => ?_⟩
    · have g := cLt har (b := ar.len X) h
      have hlt : p < l.length := by omega
      obtain ⟨x, hx⟩ : ∃ x, l[p]? = some x := ⟨_, List.getElem?_eq_getElem hlt⟩
      have hxo := hok x (List.mem_of_getElem? hx)
      obtain ⟨b, hb⟩ : ∃ b : Bool, b = decide (x.getD 0 0 ≠ 1) := ⟨_, rfl⟩
      obtain ⟨V, hV⟩ : ∃ V, V = u8s x := ⟨_, rfl⟩
      have hrow : key x = [.r 32 V] := by rw [hV]; rfl
      have rx : X[pi.toNat]? = some [.r 32 V] := by rw [hX, hpi]; simp [hx, hrow]
      have callF : ∀ (Γ : Ctx) (d' : Nat) (k : List PR → Prop) (R : Prop), Γ = ctx Tryd.prog d' → k [.s (.v (.bool b))] → Γ.g 60 [.a [.r 32 V]] k ∨ R := fun Γ d' k R hΓ hk => call_by hΓ noBlob_sound ⟨x, by rw [hrow], hxo, by rw [← hb]; exact hk⟩
      conv => cbv
      refine ⟨_, by omega, rx, rfl, ?_⟩
      conv => cbv
      refine callF _ _ _ _ hΓ ?_
      conv => cbv
      refine ⟨fun h2 => ?_, fun h2 => ?_⟩
      · rw [h2] at hb
        have hk := hk pi ⟨fun _ => ⟨_, List.mem_of_getElem? hx, of_decide_eq_true hb.symm⟩, fun _ => by omega⟩
        conv => cbv
        exact hk
      · rw [h2] at hb
        have hno2 : ¬ ∃ x ∈ l.take (p + 1), x.getD 0 0 ≠ 1 := by
          rintro ⟨y, hy, hP⟩
          rw [take_succ_get hx, List.mem_append, List.mem_singleton] at hy
          rcases hy with hy | rfl
          · exact hno ⟨y, hy, hP⟩
          · exact of_decide_eq_false hb.symm hP
        conv => cbv
        refine ⟨⟨(p + 1, ar.ib .add .i64 pi 1), hlt, iSucc har hpi (by omega), hno2⟩, ?_, ?_⟩
        · dsimp only
          conv => cbv
          simp
        · show l.length - (p + 1) < l.length - p
          omega
    · have g := cNlt har (b := ar.len X) h
      have hpe : p = l.length := by omega
      have hk := hk (-1) ⟨fun h => by omega, fun h => by rw [hpe, List.take_length] at hno; exact absurd h hno⟩
      conv => cbv
      exact hk

theorem hashConF_sound : Sound Tryd.prog 59 fun args k => ∃ (l : List (List Int)) (s : List (List PS)), args = [.s (.sl (l.map key) s), .s (.v (.func (.func 60) #[] #[]))] ∧ l.length ≤ 2 ^ 40 ∧ (∀ x ∈ l, x.length = 32) ∧ k [.s (.v (.bool (l.any fun x => decide (x.getD 0 0 ≠ 1))))] := by
  refine Sound.of_body tt_ok ent_ok Tryd.func59 rfl ?_
  rintro ar har Γ hΓ args k ⟨l, s, hargs, hl, hok, hk⟩
  obtain ⟨X, hX⟩ : ∃ X, X = l.map key := ⟨_, rfl⟩
  have callI : ∀ (Γ : Ctx) (d' : Nat) (k : List PR → Prop) (R : Prop), Γ = ctx Tryd.prog d' → (∀ z : Int, (0 ≤ z ↔ ∃ x ∈ l, x.getD 0 0 ≠ 1) → k [.s (.v (.int .i64 z))]) → Γ.g 81 [.s (.sl X s), .s (.v (.func (.func 60) #[] #[]))] k ∨ R := fun Γ d' k R hΓ hk => call_by hΓ hashIdxF_sound ⟨l, s, by rw [hX], hl, hok, hk⟩
  rw [← hX] at hargs
  have hk : ∀ z : Int, (0 ≤ z ↔ ∃ x ∈ l, x.getD 0 0 ≠ 1) → k [.s (.v (.bool (ar.cb .geq z 0)))] := fun z hz => by
    have e : ar.cb .geq z 0 = l.any fun x => decide (x.getD 0 0 ≠ 1) := by
      rw [cIs har, Bool.eq_iff_iff, List.any_eq_true]
      simp only [decide_eq_true_eq]
      rw [← hz]
      simp [intC]
    rw [e]; exact hk
  clear hX
  subst hargs
  conv => cbv
  refine callI _ _ _ _ hΓ fun z hz => ?_
  have hk := hk z hz
  conv => cbv
  exact hk

theorem authIdxF_sound : Sound Tryd.prog 61 fun args k => ∃ (l : List Au) (s : List (List PS)), args = [.s (.sl (l.map Au.row) s), .s (.v (.func (.func 39) #[] #[]))] ∧ l.length ≤ 2 ^ 40 ∧ (∀ x ∈ l, True) ∧ ∀ z : Int, (0 ≤ z ↔ ∃ x ∈ l, 255 < x.pa) → k [.s (.v (.int .i64 z))] := by
  refine Sound.of_body tt_ok ent_ok Tryd.func61 rfl ?_
  rintro ar har Γ hΓ args k ⟨l, s, hargs, hl, hok, hk⟩
  obtain ⟨X, hX⟩ : ∃ X, X = l.map Au.row := ⟨_, rfl⟩
  have hXl : ar.len X = (l.length : Int) := by rw [lenIs har, hX, List.length_map]
  rw [← hX] at hargs
  subst hargs
  conv => cbv
  refine .inr ⟨{ q : Nat × Int // q.1 ≤ l.length ∧ q.2 = q.1 ∧ ¬ ∃ x ∈ l.take q.1, 255 < x.pa },
    fun q => ⟨mk 19 [(0, .s (.p (.sl X s))), (1, .s (.p (.v (.func (.func 39) #[] #[])))), (4, .s (.lit .i64 0)), (7, pint (ar.len X)), (8, pint q.1.2)], []⟩,
    fun q => l.length - q.1.1, [], _, ⟨(0, 0), Nat.zero_le _, rfl, by simp⟩, rfl, ?_, ?_⟩
  · conv => cbv
    simp
  · rintro ⟨⟨p, pi⟩, hq⟩
    have hp : p ≤ l.length := hq.1
    have hpi : pi = (p : Int) := hq.2.1
    have hno : ¬ ∃ x ∈ l.take p, 255 < x.pa := hq.2.2
    dsimp only
    conv => cbv
    refine ⟨fun h => ?_, fun h => ?_⟩
    · have g := cLt har (b := ar.len X) h
      have hlt : p < l.length := by omega
      obtain ⟨x, hx⟩ : ∃ x, l[p]? = some x := ⟨_, List.getElem?_eq_getElem hlt⟩
      have hxo := hok x (List.mem_of_getElem? hx)
      obtain ⟨b, hb⟩ : ∃ b : Bool, b = decide (255 < x.pa) := ⟨_, rfl⟩
      obtain ⟨ch, a, no, pa, r, s'⟩ := x
      obtain ⟨x1, h1⟩ : ∃ x, x = w4 ch := ⟨_, rfl⟩
      obtain ⟨x2, h2⟩ : ∃ x, x = u8s a := ⟨_, rfl⟩
      obtain ⟨x3, h3⟩ : ∃ x : Int, x = (no : Int) := ⟨_, rfl⟩
      obtain ⟨x4, h4⟩ : ∃ x : Int, x = (pa : Int) := ⟨_, rfl⟩
      obtain ⟨x5, h5⟩ : ∃ x, x = w4 r := ⟨_, rfl⟩
      obtain ⟨x6, h6⟩ : ∃ x, x = w4 s' := ⟨_, rfl⟩
      have hrow : (Au.mk ch a no pa r s').row = [.r 4 x1, .r 20 x2, .c (.v (.int .u64 x3)), .c (.v (.int .u64 x4)), .r 4 x5, .r 4 x6] := by rw [h1, h2, h3, h4, h5, h6]; rfl
      have rx : X[pi.toNat]? = some [.r 4 x1, .r 20 x2, .c (.v (.int .u64 x3)), .c (.v (.int .u64 x4)), .r 4 x5, .r 4 x6] := by rw [hX, hpi]; simp [hx, hrow]
      have callF : ∀ (Γ : Ctx) (d' : Nat) (k : List PR → Prop) (R : Prop), Γ = ctx Tryd.prog d' → k [.s (.v (.bool b))] → Γ.g 39 [.a [.r 4 x1, .r 20 x2, .c (.v (.int .u64 x3)), .c (.v (.int .u64 x4)), .r 4 x5, .r 4 x6]] k ∨ R := fun Γ d' k R hΓ hk => call_by hΓ wide_sound ⟨⟨ch, a, no, pa, r, s'⟩, by rw [hrow], by rw [← hb]; exact hk⟩
      clear h1 h2 h3 h4 h5 h6
      conv => cbv
      refine ⟨_, by omega, rx, rfl, ?_⟩
      conv => cbv
      refine callF _ _ _ _ hΓ ?_
      conv => cbv
      refine ⟨fun h2 => ?_, fun h2 => ?_⟩
      · rw [h2] at hb
        have hk := hk pi ⟨fun _ => ⟨_, List.mem_of_getElem? hx, of_decide_eq_true hb.symm⟩, fun _ => by omega⟩
        conv => cbv
        exact hk
      · rw [h2] at hb
        have hno2 : ¬ ∃ x ∈ l.take (p + 1), 255 < x.pa := by
          rintro ⟨y, hy, hP⟩
          rw [take_succ_get hx, List.mem_append, List.mem_singleton] at hy
          rcases hy with hy | rfl
          · exact hno ⟨y, hy, hP⟩
          · exact of_decide_eq_false hb.symm hP
        conv => cbv
        refine ⟨⟨(p + 1, ar.ib .add .i64 pi 1), hlt, iSucc har hpi (by omega), hno2⟩, ?_, ?_⟩
        · dsimp only
          conv => cbv
          simp
        · show l.length - (p + 1) < l.length - p
          omega
    · have g := cNlt har (b := ar.len X) h
      have hpe : p = l.length := by omega
      have hk := hk (-1) ⟨fun h => by omega, fun h => by rw [hpe, List.take_length] at hno; exact absurd h hno⟩
      conv => cbv
      exact hk

theorem authConF_sound : Sound Tryd.prog 38 fun args k => ∃ (l : List Au) (s : List (List PS)), args = [.s (.sl (l.map Au.row) s), .s (.v (.func (.func 39) #[] #[]))] ∧ l.length ≤ 2 ^ 40 ∧ (∀ x ∈ l, True) ∧ k [.s (.v (.bool (l.any fun x => decide (255 < x.pa))))] := by
  refine Sound.of_body tt_ok ent_ok Tryd.func38 rfl ?_
  rintro ar har Γ hΓ args k ⟨l, s, hargs, hl, hok, hk⟩
  obtain ⟨X, hX⟩ : ∃ X, X = l.map Au.row := ⟨_, rfl⟩
  have callI : ∀ (Γ : Ctx) (d' : Nat) (k : List PR → Prop) (R : Prop), Γ = ctx Tryd.prog d' → (∀ z : Int, (0 ≤ z ↔ ∃ x ∈ l, 255 < x.pa) → k [.s (.v (.int .i64 z))]) → Γ.g 61 [.s (.sl X s), .s (.v (.func (.func 39) #[] #[]))] k ∨ R := fun Γ d' k R hΓ hk => call_by hΓ authIdxF_sound ⟨l, s, by rw [hX], hl, hok, hk⟩
  rw [← hX] at hargs
  have hk : ∀ z : Int, (0 ≤ z ↔ ∃ x ∈ l, 255 < x.pa) → k [.s (.v (.bool (ar.cb .geq z 0)))] := fun z hz => by
    have e : ar.cb .geq z 0 = l.any fun x => decide (255 < x.pa) := by
      rw [cIs har, Bool.eq_iff_iff, List.any_eq_true]
      simp only [decide_eq_true_eq]
      rw [← hz]
      simp [intC]
    rw [e]; exact hk
  clear hX
  subst hargs
  conv => cbv
  refine callI _ _ _ _ hΓ fun z hz => ?_
  have hk := hk z hz
  conv => cbv
  exact hk

end Go.Eng
namespace Go.Eng
open Go Go.Proofs
set_option maxRecDepth 100000
set_option maxHeartbeats 4000000
set_option linter.unusedVariables false

/-- Is the field zero? -/
def absentB (t : Tx) (f : Int) : Bool :=
  if f = 0 then decide (t.ch = 0) else if f = 2 then decide (t.pr = 0) else if f = 3 then decide (t.ti = 0) else if f = 4 then decide (t.ca = 0) else if f = 9 then decide (t.ac.length = 0)
  else if f = 10 then decide (t.bc = 0) else if f = 11 then decide (t.bl.length = 0) else if f = 12 then decide (t.au.length = 0) else true

theorem absent_sound : Sound Tryd.prog 58 fun args k => ∃ (t : Tx) (f : Int), args = [.a t.row, .s (.v (.int .i64 f))] ∧ t.ok ∧ k [.s (.v (.bool (absentB t f)))] := by
  refine Sound.of_body tt_ok ent_ok Tryd.func58 rfl ?_
  rintro ar har Γ hΓ args k ⟨⟨tty, tch, tno, tpr, tti, tca, tga, tcr, tto, tva, td, tsd, tac, tsac, tbc, tbl, tsbl, tau, tsau, tv, tr, ts⟩, f, hargs, hto, hk⟩
  obtain ⟨tWpr, thWpr⟩ : ∃ x, x = w4 tpr := ⟨_, rfl⟩
  obtain ⟨tWti, thWti⟩ : ∃ x, x = w4 tti := ⟨_, rfl⟩
  obtain ⟨tWca, thWca⟩ : ∃ x, x = w4 tca := ⟨_, rfl⟩
  obtain ⟨tWva, thWva⟩ : ∃ x, x = w4 tva := ⟨_, rfl⟩
  obtain ⟨tWbc, thWbc⟩ : ∃ x, x = w4 tbc := ⟨_, rfl⟩
  obtain ⟨tWv, thWv⟩ : ∃ x, x = w4 tv := ⟨_, rfl⟩
  obtain ⟨tWr, thWr⟩ : ∃ x, x = w4 tr := ⟨_, rfl⟩
  obtain ⟨tWs, thWs⟩ : ∃ x, x = w4 ts := ⟨_, rfl⟩
  obtain ⟨tWto, thWto⟩ : ∃ x, x = u8s tto := ⟨_, rfl⟩
  obtain ⟨tD, thD⟩ : ∃ x, x = td.map b8' := ⟨_, rfl⟩
  obtain ⟨tA, thA⟩ : ∃ x, x = tac.map Ent.row := ⟨_, rfl⟩
  obtain ⟨tB, thB⟩ : ∃ x, x = tbl.map key := ⟨_, rfl⟩
  obtain ⟨tU, thU⟩ : ∃ x, x = tau.map Au.row := ⟨_, rfl⟩
  obtain ⟨tIch, thIch⟩ : ∃ x : Int, x = (tch : Int) := ⟨_, rfl⟩
  obtain ⟨tIno, thIno⟩ : ∃ x : Int, x = (tno : Int) := ⟨_, rfl⟩
  obtain ⟨tIga, thIga⟩ : ∃ x : Int, x = (tga : Int) := ⟨_, rfl⟩
  have hrow : (Tx.mk tty tch tno tpr tti tca tga tcr tto tva td tsd tac tsac tbc tbl tsbl tau tsau tv tr ts).row = [.c (.v (.int .i64 tty)), .c (.v (.int .u64 tIch)), .c (.v (.int .u64 tIno)), .r 4 tWpr, .r 4 tWti, .r 4 tWca, .c (.v (.int .u64 tIga)), .c (.v (.bool tcr)), .r 20 tWto, .r 4 tWva, .c (.sl tD tsd), .c (.sl tA tsac), .r 4 tWbc, .c (.sl tB tsbl), .c (.sl tU tsau), .r 4 tWv, .r 4 tWr, .r 4 tWs] := by rw [thWpr, thWti, thWca, thWva, thWbc, thWv, thWr, thWs, thWto, thD, thA, thB, thU, thIch, thIno, thIga]; rfl
  have z4 : ints .u64 (w4 0) := intsW4 0
  have e0 : ar.cb .eql tIch 0 = decide (tch = 0) := by
    rw [cIs har, thIch, Bool.eq_iff_iff, decide_eq_true_iff]; simp [intC]
  have hA : ar.len tA = (tac.length : Int) := by rw [lenIs har, thA, List.length_map]
  have hB : ar.len tB = (tbl.length : Int) := by rw [lenIs har, thB, List.length_map]
  have hU : ar.len tU = (tau.length : Int) := by rw [lenIs har, thU, List.length_map]
  have el : ∀ (X : List (List PS)) (n : Nat), ar.len X = (n : Int) → ar.cb .eql (ar.len X) 0 = decide (n = 0) := fun X n h => by
    rw [h, cIs har, Bool.eq_iff_iff, decide_eq_true_iff]; simp [intC]
  have ew : ∀ (W : List Value) (n : Nat), W = w4 n → n < M256 → ar.eqv W (w4 0) = decide (n = 0) := fun W n h hn => by
    rw [eqvIs har, h, eqV4 hn (by decide)]
  have ipr : ints .u64 tWpr := by rw [thWpr]; exact intsW4 _
  have epr := ew tWpr tpr thWpr hto.pr
  have iti : ints .u64 tWti := by rw [thWti]; exact intsW4 _
  have eti := ew tWti tti thWti hto.ti
  have ica : ints .u64 tWca := by rw [thWca]; exact intsW4 _
  have eca := ew tWca tca thWca hto.ca
  have ibc : ints .u64 tWbc := by rw [thWbc]; exact intsW4 _
  have ebc := ew tWbc tbc thWbc hto.bc
  have eA := el tA _ hA
  have eB := el tB _ hB
  have eU := el tU _ hU
  rw [hrow] at hargs
  simp only [absentB] at hk
  clear thWpr thWti thWca thWva thWbc thWv thWr thWs thWto thD thA thB thU thIch thIno thIga hrow hA hB hU el ew hto
  subst hargs
  conv => cbv
  refine ⟨fun h => ?_, fun h => ?_⟩
  · have g := cEq har (a := f) (b := 0) h
    rw [if_pos g, ← e0] at hk
    conv => cbv
    exact hk
  have g0 := cNeq har (a := f) (b := 0) h
  rw [if_neg g0] at hk
  conv => cbv
  refine ⟨fun h => ?_, fun h => ?_⟩
  · have g := cEq har (a := f) (b := 2) h
    rw [if_pos g, ← epr] at hk
    conv => cbv
    trace_state
    exact ⟨fun _ => ⟨ipr, z4⟩, hk⟩
  have g2 := cNeq har (a := f) (b := 2) h
  rw [if_neg g2] at hk
  conv => cbv
  refine ⟨fun h => ?_, fun h => ?_⟩
  · have g := cEq har (a := f) (b := 3) h
    rw [if_pos g, ← eti] at hk
    conv => cbv
    trace_state
    exact ⟨fun _ => ⟨iti, z4⟩, hk⟩
  have g3 := cNeq har (a := f) (b := 3) h
  rw [if_neg g3] at hk
  conv => cbv
  refine ⟨fun h => ?_, fun h => ?_⟩
  · have g := cEq har (a := f) (b := 4) h
    rw [if_pos g, ← eca] at hk
    conv => cbv
    trace_state
    exact ⟨fun _ => ⟨ica, z4⟩, hk⟩
  have g4 := cNeq har (a := f) (b := 4) h
  rw [if_neg g4] at hk
  conv => cbv
  refine ⟨fun h => ?_, fun h => ?_⟩
  · have g := cEq har (a := f) (b := 9) h
    rw [if_pos g, ← eA] at hk
    conv => cbv
    exact hk
  have g9 := cNeq har (a := f) (b := 9) h
  rw [if_neg g9] at hk
  conv => cbv
  refine ⟨fun h => ?_, fun h => ?_⟩
  · have g := cEq har (a := f) (b := 10) h
    rw [if_pos g, ← ebc] at hk
    conv => cbv
    trace_state
    exact ⟨fun _ => ⟨ibc, z4⟩, hk⟩
  have g10 := cNeq har (a := f) (b := 10) h
  rw [if_neg g10] at hk
  conv => cbv
  refine ⟨fun h => ?_, fun h => ?_⟩
  · have g := cEq har (a := f) (b := 11) h
    rw [if_pos g, ← eB] at hk
    conv => cbv
    exact hk
  have g11 := cNeq har (a := f) (b := 11) h
  rw [if_neg g11] at hk
  conv => cbv
  refine ⟨fun h => ?_, fun h => ?_⟩
  · have g := cEq har (a := f) (b := 12) h
    rw [if_pos g, ← eU] at hk
    conv => cbv
    exact hk
  have g12 := cNeq har (a := f) (b := 12) h
  rw [if_neg g12] at hk
  conv => cbv
  exact hk
end Go.Eng
namespace Go.Eng
open Go Go.Proofs
set_option maxRecDepth 100000
set_option maxHeartbeats 8000000
set_option linter.unusedVariables false

/-- May the field be so? -/
def okF (t : Tx) (f : Int) : Bool := decide (f ∈ txFs t.ty) || absentB t f || (decide (t.ty = 0) && decide (f = 0))
def z20s : List Int := List.replicate 20 0
def fitsB (t : Tx) : Bool :=
  (List.range 16).all (fun f : Nat => okF t f) && !(t.cr && decide (t.to ≠ z20s)) && decide (t.bl.length ≤ 4096) && !(t.bl.any fun x => decide (x.getD 0 0 ≠ 1))

theorem fits_sound : Sound Tryd.prog 37 fun args k => ∃ (t : Tx), args = [.a t.row] ∧ t.ok ∧ t.small ∧ k [.s (.v (.bool (fitsB t)))] := by
  refine Sound.of_body tt_ok ent_ok Tryd.func37 rfl ?_
  rintro ar har Γ hΓ args k ⟨⟨tty, tch, tno, tpr, tti, tca, tga, tcr, tto, tva, td, tsd, tac, tsac, tbc, tbl, tsbl, tau, tsau, tv, tr, ts⟩, hargs, hto, hsm, hk⟩
  obtain ⟨t, ht⟩ : ∃ t, t = Tx.mk tty tch tno tpr tti tca tga tcr tto tva td tsd tac tsac tbc tbl tsbl tau tsau tv tr ts := ⟨_, rfl⟩
  obtain ⟨tWpr, thWpr⟩ : ∃ x, x = w4 tpr := ⟨_, rfl⟩
  obtain ⟨tWti, thWti⟩ : ∃ x, x = w4 tti := ⟨_, rfl⟩
  obtain ⟨tWca, thWca⟩ : ∃ x, x = w4 tca := ⟨_, rfl⟩
  obtain ⟨tWva, thWva⟩ : ∃ x, x = w4 tva := ⟨_, rfl⟩
  obtain ⟨tWbc, thWbc⟩ : ∃ x, x = w4 tbc := ⟨_, rfl⟩
  obtain ⟨tWv, thWv⟩ : ∃ x, x = w4 tv := ⟨_, rfl⟩
  obtain ⟨tWr, thWr⟩ : ∃ x, x = w4 tr := ⟨_, rfl⟩
  obtain ⟨tWs, thWs⟩ : ∃ x, x = w4 ts := ⟨_, rfl⟩
  obtain ⟨tWto, thWto⟩ : ∃ x, x = u8s tto := ⟨_, rfl⟩
  obtain ⟨tD, thD⟩ : ∃ x, x = td.map b8' := ⟨_, rfl⟩
  obtain ⟨tA, thA⟩ : ∃ x, x = tac.map Ent.row := ⟨_, rfl⟩
  obtain ⟨tB, thB⟩ : ∃ x, x = tbl.map key := ⟨_, rfl⟩
  obtain ⟨tU, thU⟩ : ∃ x, x = tau.map Au.row := ⟨_, rfl⟩
  obtain ⟨tIch, thIch⟩ : ∃ x : Int, x = (tch : Int) := ⟨_, rfl⟩
  obtain ⟨tIno, thIno⟩ : ∃ x : Int, x = (tno : Int) := ⟨_, rfl⟩
  obtain ⟨tIga, thIga⟩ : ∃ x : Int, x = (tga : Int) := ⟨_, rfl⟩
  have hrow : t.row = [.c (.v (.int .i64 tty)), .c (.v (.int .u64 tIch)), .c (.v (.int .u64 tIno)), .r 4 tWpr, .r 4 tWti, .r 4 tWca, .c (.v (.int .u64 tIga)), .c (.v (.bool tcr)), .r 20 tWto, .r 4 tWva, .c (.sl tD tsd), .c (.sl tA tsac), .r 4 tWbc, .c (.sl tB tsbl), .c (.sl tU tsau), .r 4 tWv, .r 4 tWr, .r 4 tWs] := by rw [ht]; exact (by rw [thWpr, thWti, thWca, thWva, thWbc, thWv, thWr, thWs, thWto, thD, thA, thB, thU, thIch, thIno, thIga]; rfl)
  rw [← ht] at hargs hto hsm hk
  have hty : t.ty = tty := by rw [ht]
  obtain ⟨F, hF⟩ : ∃ x, x = (txFs tty).map irow := ⟨_, rfl⟩
  have hfl : (txFs tty).length ≤ 2 ^ 40 := by
    have : ∀ y, (txFs y).length ≤ 14 := fun y => by unfold txFs; (repeat' split) <;> decide
    have := this tty
    omega
  have callR : ∀ (Γ : Ctx) (d' : Nat) (k : List PR → Prop) (R : Prop), Γ = ctx Tryd.prog d' → k [.s (.sl F [])] → Γ.g 25 [.s (.v (.int .i64 tty))] k ∨ R := fun Γ d' k R hΓ hk => call_by hΓ rowOf_sound ⟨tty, rfl, by rw [← hF]; exact hk⟩
  have callC : ∀ (f : Int) (c : Bool) (Γ : Ctx) (d' : Nat) (k : List PR → Prop) (R : Prop), Γ = ctx Tryd.prog d' → c = decide (f ∈ txFs tty) → k [.s (.v (.bool c))] → Γ.g 57 [.s (.sl F []), .s (.v (.int .i64 f))] k ∨ R := fun f c Γ d' k R hΓ hc hk => call_by hΓ contains_sound ⟨txFs tty, f, [], by rw [hF], hfl, by rw [← hc]; exact hk⟩
  have callA : ∀ (f : Int) (c : Bool) (Γ : Ctx) (d' : Nat) (k : List PR → Prop) (R : Prop), Γ = ctx Tryd.prog d' → c = absentB t f → k [.s (.v (.bool c))] → Γ.g 58 [.a [.c (.v (.int .i64 tty)), .c (.v (.int .u64 tIch)), .c (.v (.int .u64 tIno)), .r 4 tWpr, .r 4 tWti, .r 4 tWca, .c (.v (.int .u64 tIga)), .c (.v (.bool tcr)), .r 20 tWto, .r 4 tWva, .c (.sl tD tsd), .c (.sl tA tsac), .r 4 tWbc, .c (.sl tB tsbl), .c (.sl tU tsau), .r 4 tWv, .r 4 tWr, .r 4 tWs], .s (.v (.int .i64 f))] k ∨ R := fun f c Γ d' k R hΓ hc hk => call_by hΓ absent_sound ⟨t, f, by rw [hrow], hto, by rw [← hc]; exact hk⟩
  obtain ⟨bB, hbB⟩ : ∃ b : Bool, b = tbl.any fun x => decide (x.getD 0 0 ≠ 1) := ⟨_, rfl⟩
  have callB : ∀ (Γ : Ctx) (d' : Nat) (k : List PR → Prop) (R : Prop), Γ = ctx Tryd.prog d' → k [.s (.v (.bool bB))] → Γ.g 59 [.s (.sl tB tsbl), .s (.v (.func (.func 60) #[] #[]))] k ∨ R := fun Γ d' k R hΓ hk => call_by hΓ hashConF_sound ⟨tbl, tsbl, by rw [thB], by have := hsm.bl; rw [ht] at this; simp only at this; omega, fun x hx => (hto.bl x (by rw [ht]; exact hx)).1, by rw [← hbB]; exact hk⟩
  obtain ⟨bT, hbT⟩ : ∃ b : Bool, b = decide (tto = z20s) := ⟨_, rfl⟩
  have iT : ints .u8 tWto := by rw [thWto]; exact ints_u8s _
  have iZ : ints .u8 (u8s z20s) := ints_u8s _
  have eT : ar.eqv tWto (u8s z20s) = bT := by rw [eqvIs har, thWto, eqVals_u8s, hbT, Bool.eq_iff_iff, beq_iff_eq, decide_eq_true_iff]
  have hBl : ar.len tB = (tbl.length : Int) := by rw [lenIs har, thB, List.length_map]
  have hk : ∀ b, b = fitsB t → k [.s (.v (.bool b))] := fun b hb => by rw [hb]; exact hk
  have hfit : fitsB t = ((List.range 16).all (fun f : Nat => okF t f) && !(tcr && !bT) && decide (tbl.length ≤ 4096) && !bB) := by
    have : decide (tto ≠ z20s) = !bT := by rw [hbT]; simp
    rw [← this, hbB]; unfold fitsB; rw [ht]
  rw [hrow] at hargs
  conv at eT => lhs; cbv
  have n0 : ar.nb true = false := by rw [har]; rfl
  have n1 : ar.nb false = true := by rw [har]; rfl
  have okE : ∀ f : Int, okF t f = (decide (f ∈ txFs tty) || absentB t f || (decide (tty = 0) && decide (f = 0))) := fun f => by unfold okF; rw [hty]
  clear ht hF
  subst hargs
  conv => cbv
  refine .inr ⟨{ q : Nat × Int // q.1 ≤ 16 ∧ q.2 = q.1 ∧ ∀ j : Nat, j < q.1 → okF t j = true },
    fun q => ⟨mk 47 [(1, .s (.ptr 0 0)), (2, .s (.bl false)), (4, pint q.1.2)], [.box [.c (.p (.v (.int .i64 tty))), .c (.p (.v (.int .u64 tIch))), .c (.p (.v (.int .u64 tIno))), .r 4 tWpr, .r 4 tWti, .r 4 tWca, .c (.p (.v (.int .u64 tIga))), .c (.p (.v (.bool tcr))), .r 20 tWto, .r 4 tWva, .c (.p (.sl tD tsd)), .c (.p (.sl tA tsac)), .r 4 tWbc, .c (.p (.sl tB tsbl)), .c (.p (.sl tU tsau)), .r 4 tWv, .r 4 tWr, .r 4 tWs]]⟩,
    fun q => 16 - q.1.1, [], _, ⟨(0, 0), Nat.zero_le _, rfl, fun j hj => absurd hj (Nat.not_lt_zero _)⟩, rfl, ?_, ?_⟩
  · conv => cbv
    simp
  · rintro ⟨⟨p, pi⟩, hq⟩
    have hp : p ≤ 16 := hq.1
    have hpi : pi = (p : Int) := hq.2.1
    have hall : ∀ j : Nat, j < p → okF t j = true := hq.2.2
    dsimp only
    conv => cbv
    refine ⟨fun h => ?_, fun h => ?_⟩
    · have g := cLt har (a := pi) (b := 16) h
      have hbad : okF t pi = false → fitsB t = false := fun h => by
        rw [hfit]
        have : (List.range 16).all (fun f : Nat => okF t f) = false := List.all_eq_false.2 ⟨p, List.mem_range.2 (by omega), by rw [← hpi, h]; simp⟩
        rw [this]; simp
      have hnext : okF t pi = true → ∀ j : Nat, j < p + 1 → okF t j = true := fun h j hj => by
        rcases Nat.lt_or_ge j p with hlt | hge
        · exact hall j hlt
        · rw [show (j : Int) = pi by omega]; exact h
      have go : okF t pi = true → ∃ j : { q : Nat × Int // q.1 ≤ 16 ∧ q.2 = q.1 ∧ ∀ j : Nat, j < q.1 → okF t j = true }, j.1 = (p + 1, ar.ib .add .i64 pi 1) ∧ 16 - j.1.1 < 16 - p := fun h => ⟨⟨(p + 1, ar.ib .add .i64 pi 1), by show p + 1 ≤ 16; omega, iSucc har hpi (by omega), hnext h⟩, rfl, by show 16 - (p + 1) < 16 - p; omega⟩
      obtain ⟨c1, hc1⟩ : ∃ c : Bool, c = decide (pi ∈ txFs tty) := ⟨_, rfl⟩
      obtain ⟨c2, hc2⟩ : ∃ c : Bool, c = absentB t pi := ⟨_, rfl⟩
      have hok := okE pi
      rw [← hc1, ← hc2] at hok
      conv => cbv
      refine callR _ _ _ _ hΓ ?_
      conv => cbv
      refine callC _ c1 _ _ _ _ hΓ hc1 ?_
      conv => cbv
      have fin : ∀ x : { q : Nat × Int // q.1 ≤ 16 ∧ q.2 = q.1 ∧ ∀ j : Nat, j < q.1 → okF t j = true }, True := fun _ => trivial
      cases c1 with
      | true =>
        have hok2 : okF t pi = true := by rw [hok]; rfl
        refine onF n0 ?_
        conv => cbv
        refine ⟨⟨(p + 1, ar.ib .add .i64 pi 1), by show p + 1 ≤ 16; omega, iSucc har hpi (by omega), hnext hok2⟩, ?_, ?_⟩
        · dsimp only
          conv => cbv
          simp
        · show 16 - (p + 1) < 16 - p
          omega
      | false =>
        refine onT n1 ?_
        conv => cbv
        refine callA _ c2 _ _ _ _ hΓ hc2 ?_
        conv => cbv
        cases c2 with
        | true =>
          have hok2 : okF t pi = true := by rw [hok]; rfl
          refine onF n0 ?_
          conv => cbv
          refine ⟨⟨(p + 1, ar.ib .add .i64 pi 1), by show p + 1 ≤ 16; omega, iSucc har hpi (by omega), hnext hok2⟩, ?_, ?_⟩
          · dsimp only
            conv => cbv
            simp
          · show 16 - (p + 1) < 16 - p
            omega
        | false =>
          refine onT n1 ?_
          conv => cbv
          refine ⟨fun h => ?_, fun h => ?_⟩
          · have g2 := cNne har (a := tty) (b := 0) h
            conv => cbv
            refine ⟨fun h => ?_, fun h => ?_⟩
            · have g3 := cNe har (a := pi) (b := 0) h
              have hk := hk false (by rw [hbad (by rw [hok, decide_eq_false g3]; simp)])
              conv => cbv
              exact hk
            · have g3 := cNne har (a := pi) (b := 0) h
              have hok2 : okF t pi = true := by rw [hok, decide_eq_true g2, decide_eq_true g3]; rfl
              conv => cbv
              refine ⟨⟨(p + 1, ar.ib .add .i64 pi 1), by show p + 1 ≤ 16; omega, iSucc har hpi (by omega), hnext hok2⟩, ?_, ?_⟩
              · dsimp only
                conv => cbv
                simp
              · show 16 - (p + 1) < 16 - p
                omega
          · have g2 := cNe har (a := tty) (b := 0) h
            have hk := hk false (by rw [hbad (by rw [hok, decide_eq_false g2]; rfl)])
            conv => cbv
            exact hk
    · have g := cNlt har (a := pi) (b := 16) h
      have hr : (List.range 16).all (fun f : Nat => okF t f) = true := List.all_eq_true.2 fun j hj => hall j (by have := List.mem_range.1 hj; omega)
      rw [hr] at hfit
      have hk4 : ∀ b, b = fitsB t → k [.s (.v (.bool b))] := hk
      conv => cbv
      refine ⟨fun h => ?_, fun h => ?_⟩
      · subst h
        conv => cbv
        refine ⟨fun _ => ⟨iT, iZ⟩, ?_⟩
        rw [eT]
        cases bT with
        | true =>
          refine ⟨fun _ => ?_, fun h => absurd (n0.symm.trans h) (by decide)⟩
          conv => cbv
          refine ⟨fun h => ?_, fun h => ?_⟩
          · have g2 := cGt har (a := ar.len tB) (b := 4096) h
            have hk := hk4 false (by rw [hfit, decide_eq_false (by omega)]; rfl)
            conv => cbv
            exact hk
          · have g2 := cNgt har (a := ar.len tB) (b := 4096) h
            have hk := hk4 (ar.nb bB) (by rw [hfit, decide_eq_true (by omega), har]; rfl)
            conv => cbv
            refine callB _ _ _ _ hΓ ?_
            conv => cbv
            exact hk
        | false =>
          refine ⟨fun h => absurd (n1.symm.trans h) (by decide), fun _ => ?_⟩
          have hk := hk4 false (by rw [hfit]; rfl)
          conv => cbv
          exact hk
      · subst h
        conv => cbv
        refine ⟨fun h => ?_, fun h => ?_⟩
        · have g2 := cGt har (a := ar.len tB) (b := 4096) h
          have hk := hk4 false (by rw [hfit, decide_eq_false (by omega)]; simp)
          conv => cbv
          exact hk
        · have g2 := cNgt har (a := ar.len tB) (b := 4096) h
          have hk := hk4 (ar.nb bB) (by rw [hfit, decide_eq_true (by omega), har]; rfl)
          conv => cbv
          refine callB _ _ _ _ hΓ ?_
          conv => cbv
          exact hk
end Go.Eng
