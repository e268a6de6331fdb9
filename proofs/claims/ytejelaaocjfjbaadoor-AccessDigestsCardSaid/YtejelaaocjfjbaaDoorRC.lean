/-
  access.entry, Parse: an item as an access list. Condition: sizes up to 2^40.
  access.Parse: an item as an access list. Condition: sizes up to 2^40.
  rlp.Number, Small; access.AuthItem. Condition: sizes up to 2^40.
-/
import Derived.Test.YtejelaaocjfjbaaDoorRB
import Derived.Test.YtejelaaocjfjbaaDoorD0
namespace Go.Eng
open Go Go.Proofs
set_option maxRecDepth 100000
set_option maxHeartbeats 4000000
set_option linter.unusedVariables false

def keysOf : List It → Option (List (List Int))
  | [] => some []
  | x :: l => if (x.getFixed 32).2 = 0 then (keysOf l).map ((x.getFixed 32).1 :: ·) else none

def entKs (a : List Int) (y : It) : Option (List Int × List (List Int)) := if y.getList.2 = 0 then (keysOf y.getList.1).map (a, ·) else none
def entXY : List It → Option (List Int × List (List Int))
  | [x, y] => if (x.getFixed 20).2 = 0 then entKs (x.getFixed 20).1 y else none
  | _ => none
def entOf (it : It) : Option (List Int × List (List Int)) := if it.getList.2 = 0 then entXY it.getList.1 else none

def z20 : List Value := List.replicate 20 (.int .u8 0)
def entR : Option (List Int × List (List Int)) → List PR
  | some (a, ks) => [.a [.r 20 (u8s a), .c (.sl (ks.map key) [])], .s (.v (.bool true))]
  | none => [.a [.r 20 z20, .c (.sl [] [])], .s (.v (.bool false))]

theorem fixR_len {n : Nat} {e : Int} {d : List Int} (h : (fixR n e d).2 = 0) : (fixR n e d).1.length = n := by
  unfold fixR at h ⊢
  by_cases h1 : e = 0
  · by_cases h2 : d.length = n
    · rw [if_pos h1, if_pos h2]; exact h2
    · rw [if_pos h1, if_neg h2] at h; cases h
  · rw [if_neg h1] at h; contradiction
theorem getFixed_len {n : Nat} {x : It} (h : (x.getFixed n).2 = 0) : (x.getFixed n).1.length = n := fixR_len h
theorem keysOf_append : ∀ (a : List It) (x : It), keysOf (a ++ [x]) = match keysOf a with | some l => if (x.getFixed 32).2 = 0 then some (l ++ [(x.getFixed 32).1]) else none | none => none
  | [], x => by simp only [List.nil_append, keysOf]; split <;> simp
  | y :: a, x => by
    simp only [List.cons_append, keysOf]
    split
    · rw [keysOf_append a x]
      cases keysOf a with
      | none => rfl
      | some l => simp only [Option.map_some]; split <;> simp
    · rfl
theorem keysOf_none : ∀ (a b : List It), keysOf a = none → keysOf (a ++ b) = none
  | [], _, h => by cases h
  | x :: a, b, h => by
    simp only [List.cons_append, keysOf] at h ⊢
    split
    · rename_i h1
      rw [if_pos h1] at h
      cases h2 : keysOf a with
      | none => rw [keysOf_none a b h2]; rfl
      | some l => rw [h2] at h; cases h
    · rfl
theorem strip_bulk : ∀ x : It, x.strip.bulk = x.bulk
  | .mk l d sd its ss => by
    have : ∀ its : List It, (∀ x ∈ its, x.strip.bulk = x.bulk) → bulks (strips its) = bulks its := by
      intro its
      induction its with
      | nil => intro _; rfl
      | cons x xs ih => intro h; simp only [strips, bulks]; rw [h x (by simp), ih fun y hy => h y (by simp [hy])]
    simp only [It.strip, It.bulk]
    rw [this its fun x hx => strip_bulk x]
termination_by x => x.bulk
decreasing_by
  have := bulk_mem hx
  simp only [It.bulk]; omega
theorem strips_bulk (its : List It) : bulks (strips its) = bulks its := by
  induction its with
  | nil => rfl
  | cons x xs ih => simp only [strips, bulks]; rw [strip_bulk, ih]
theorem getList_bulk (it : It) : bulks it.getList.1 ≤ it.bulk := by
  unfold It.getList
  split
  · show bulks (strips it.its) ≤ _
    rw [strips_bulk]; cases it; simp only [It.its, It.bulk]; omega
  · exact Nat.zero_le _

theorem take20 {n : Nat} {d : List Int} {D : List (List PS)} (hD : D = d.map b8) (h : d.length = n) : D.take n = (u8s d).map fun w => [PS.c (.v w)] := by
  rw [List.take_of_length_le (by rw [hD, List.length_map]; omega), hD, u8s, List.map_map]; rfl

theorem entXY_none : ∀ l : List It, l.length ≠ 2 → entXY l = none
  | [], _ => rfl
  | [_], _ => rfl
  | [_, _], h => absurd rfl h
  | _ :: _ :: _ :: _, _ => rfl
theorem two_of : ∀ l : List It, l.length = 2 → ∃ x y, l = [x, y]
  | [x, y], _ => ⟨x, y, rfl⟩

theorem entry_sound : Sound Tryd.prog 128 fun args k => ∃ (it : It), args = [.a it.row] ∧ it.bulk ≤ 2 ^ 40 ∧ k (entR (entOf it)) := by
  refine Sound.of_body tt_ok ent_ok Tryd.func128 rfl ?_
  rintro ar har Γ hΓ args k ⟨it, hargs, hb, hk⟩
  have callGL : ∀ (it : It) (A : List PS) (B : List (List PS)) (e : Int) (Γ : Ctx) (d' : Nat) (k : List PR → Prop) (R : Prop), Γ = ctx Tryd.prog d' → it.row = A → it.bulk ≤ 2 ^ 40 → B = rowsOf it.getList.1 → e = it.getList.2 → k [.s (.sl B []), .s (.v (.int .i64 e))] → Γ.g 127 [.a A] k ∨ R := fun it A B e Γ d' k R hΓ hA hb hB he hk => call_by hΓ getList_sound ⟨it, by rw [hA], hb, by rw [← hB, ← he]; exact hk⟩
  have callGF : ∀ (it : It) (n : Nat) (m : Int) (A : List PS) (B : List (List PS)) (e : Int) (Γ : Ctx) (d' : Nat) (k : List PR → Prop) (R : Prop), Γ = ctx Tryd.prog d' → m = (n : Int) → it.row = A → it.bulk ≤ 2 ^ 40 → B = (it.getFixed n).1.map b8 → e = (it.getFixed n).2 → k [.s (.sl B []), .s (.v (.int .i64 e))] → Γ.g 129 [.a A, .s (.v (.int .i64 m))] k ∨ R := fun it n m A B e Γ d' k R hΓ hm hA hb hB he hk => call_by hΓ getFixed_sound ⟨it, n, by rw [hA, hm], hb, by rw [← hB, ← he]; exact hk⟩
  obtain ⟨a, ⟨b1, b2⟩, ⟨c1, c2⟩, hA⟩ := row3 it
  obtain ⟨P, hP⟩ : ∃ P, P = rowsOf it.getList.1 := ⟨_, rfl⟩
  obtain ⟨e, he⟩ : ∃ e, e = it.getList.2 := ⟨_, rfl⟩
  have hPl : ar.len P = (it.getList.1.length : Int) := by rw [lenIs har, hP, rowsOf_length]
  have hPb := getList_bulk it
  rw [hA] at hargs
  have hno : (entOf it = none) → k [.a [.r 20 z20, .c (.sl [] [])], .s (.v (.bool false))] := fun h => by rw [h] at hk; exact hk
  subst hargs
  conv => cbv
  refine callGL it _ P e _ _ _ _ hΓ hA hb hP he ?_
  conv => cbv
  refine ⟨fun h => ?_, fun h => ?_⟩
  · have g := cNne har (a := e) (b := 0) h
    have hO : entOf it = entXY it.getList.1 := by rw [entOf, if_pos (by rw [← he]; exact g)]
    conv => cbv
    refine ⟨fun h => ?_, fun h => ?_⟩
    · have g2 := cNe har (a := ar.len P) (b := 2) h
      have hr := hno (by rw [hO]; exact entXY_none _ (by omega))
      conv => cbv
      exact hr
    · have g2 := cNne har (a := ar.len P) (b := 2) h
      obtain ⟨x, y, hxy⟩ : ∃ x y, it.getList.1 = [x, y] := two_of _ (by omega)
      rw [hxy] at hP hO hPb
      simp only [bulks] at hPb
      obtain ⟨xa, ⟨xb1, xb2⟩, ⟨xc1, xc2⟩, hX⟩ := row3 x
      obtain ⟨ya, ⟨yb1, yb2⟩, ⟨yc1, yc2⟩, hYr⟩ := row3 y
      have rx : P[(0 : Int).toNat]? = some [.c (.v (.bool xa)), .c (.sl xb1 xb2), .c (.sl xc1 xc2)] := by rw [hP, ← hX]; rfl
      have ry : P[(1 : Int).toNat]? = some [.c (.v (.bool ya)), .c (.sl yb1 yb2), .c (.sl yc1 yc2)] := by rw [hP, ← hYr]; rfl
      obtain ⟨D, hD⟩ : ∃ D, D = (x.getFixed 20).1.map b8 := ⟨_, rfl⟩
      obtain ⟨e2, he2⟩ : ∃ e, e = (x.getFixed 20).2 := ⟨_, rfl⟩
      obtain ⟨Q, hQ⟩ : ∃ P, P = rowsOf y.getList.1 := ⟨_, rfl⟩
      obtain ⟨e3, he3⟩ : ∃ e, e = y.getList.2 := ⟨_, rfl⟩
      have hQl : ar.len Q = (y.getList.1.length : Int) := by rw [lenIs har, hQ, rowsOf_length]
      have hQb := getList_bulk y
      obtain ⟨av, hav⟩ : ∃ av, av = u8s (x.getFixed 20).1 := ⟨_, rfl⟩
      conv => cbv
      refine ⟨_, by omega, rx, rfl, ?_⟩
      conv => cbv
      refine callGF x 20 20 _ D e2 _ _ _ _ hΓ rfl hX (by omega) hD he2 ?_
      conv => cbv
      refine ⟨fun h => ?_, fun h => ?_⟩
      · have g3 := cNe har (a := e2) (b := 0) h
        have hr := hno (by rw [hO, entXY, if_neg (by rw [← he2]; exact g3)])
        conv => cbv
        exact hr
      · have g3 := cNne har (a := e2) (b := 0) h
        have hO2 : entOf it = entKs (x.getFixed 20).1 y := by rw [hO, entXY, if_pos (by rw [← he2]; exact g3)]
        have hlen20 : (x.getFixed 20).1.length = 20 := getFixed_len (by rw [← he2]; exact g3)
        have hcut := take20 hD hlen20
        rw [← hav] at hcut
        have havl : av.length = 20 := by rw [hav, u8s, List.length_map, hlen20]
        conv => cbv
        refine ⟨_, by omega, ry, rfl, ?_⟩
        conv => cbv
        refine callGL y _ Q e3 _ _ _ _ hΓ hYr (by omega) hQ he3 ?_
        conv => cbv
        refine ⟨fun h => ?_, fun h => ?_⟩
        · have g4 := cNe har (a := e3) (b := 0) h
          have hr := hno (by rw [hO2, entKs, if_neg (by rw [← he3]; exact g4)])
          conv => cbv
          exact hr
        · have g4 := cNne har (a := e3) (b := 0) h
          have hO3 : entOf it = (keysOf y.getList.1).map ((x.getFixed 20).1, ·) := by rw [hO2, entKs, if_pos (by rw [← he3]; exact g4)]
          conv => cbv
          refine ⟨av, havl, hcut, ?_⟩
          conv => cbv
          refine .inr ⟨{ q : Nat × Int × List (List PS) // q.1 ≤ y.getList.1.length ∧ q.2.1 = q.1 ∧ ∃ ks, keysOf (y.getList.1.take q.1) = some ks ∧ q.2.2 = ks.map key ∧ ks.length = q.1 },
            fun q => ⟨mk 74 [(2, .s (.ptr 1 0)), (3, .s (.bl false)), (8, .s (.ptr 2 0)), (50, .s (.p (.sl Q []))), (51, pint (ar.len Q)), (52, pint q.1.2.1)], [.gone, .box [.r 20 (List.replicate 20 (.int .u8 0)), .c .nil], .box [.r 20 av, .c (.own 3)], .arr q.1.2.2 38 32 32 true]⟩,
            fun q => y.getList.1.length - q.1.1, [.cell 2 20 38], _, ⟨(0, 0, []), Nat.zero_le _, rfl, [], rfl, rfl, rfl⟩, rfl, ?_, ?_⟩
          · conv => cbv
            simp
          · rintro ⟨⟨r, ri, K⟩, hr⟩
            have hrp : r ≤ y.getList.1.length := hr.1
            have hri : ri = (r : Int) := hr.2.1
            obtain ⟨ks, hks, hK, hkl⟩ : ∃ ks, keysOf (y.getList.1.take r) = some ks ∧ K = ks.map key ∧ ks.length = r := hr.2.2
            have hKl : K.length = r := by rw [hK, List.length_map, hkl]
            dsimp only
            conv => cbv
            refine ⟨fun h => ?_, fun h => ?_⟩
            · have g' := cLt har (b := ar.len Q) h
              have hrl : r < y.getList.1.length := by omega
              obtain ⟨w, hw⟩ : ∃ w, y.getList.1[r]? = some w := ⟨_, List.getElem?_eq_getElem hrl⟩
              obtain ⟨wa, ⟨wb1, wb2⟩, ⟨wc1, wc2⟩, hWr⟩ := row3 w
              have hwb := bulk_get hw
              have rw1 : Q[ri.toNat]? = some [.c (.v (.bool wa)), .c (.sl wb1 wb2), .c (.sl wc1 wc2)] := by rw [hQ, hri, Int.toNat_natCast, rowsOf_get hw, hWr]
              obtain ⟨D', hD'⟩ : ∃ D, D = (w.getFixed 32).1.map b8 := ⟨_, rfl⟩
              obtain ⟨e5, he5⟩ : ∃ e, e = (w.getFixed 32).2 := ⟨_, rfl⟩
              obtain ⟨wv, hwv⟩ : ∃ av, av = u8s (w.getFixed 32).1 := ⟨_, rfl⟩
              conv => cbv
              refine ⟨_, by omega, rw1, rfl, ?_⟩
              conv => cbv
              refine callGF w 32 32 _ D' e5 _ _ _ _ hΓ rfl hWr (by omega) hD' he5 ?_
              conv => cbv
              refine ⟨fun h => ?_, fun h => ?_⟩
              · have g5 := cNe har (a := e5) (b := 0) h
                have hn : keysOf y.getList.1 = none := by
                  rw [← List.take_append_drop (r + 1) y.getList.1]
                  refine keysOf_none _ _ ?_
                  rw [take_succ_get hw, keysOf_append, hks]
                  simp only
                  rw [if_neg (by rw [← he5]; exact g5)]
                have hr := hno (by rw [hO3, hn]; rfl)
                conv => cbv
                exact hr
              · have g5 := cNne har (a := e5) (b := 0) h
                have hlen32 : (w.getFixed 32).1.length = 32 := getFixed_len (by rw [← he5]; exact g5)
                have hcut2 := take20 hD' hlen32
                rw [← hwv] at hcut2
                have hwvl : wv.length = 32 := by rw [hwv, u8s, List.length_map, hlen32]
                have hks2 : keysOf (y.getList.1.take (r + 1)) = some (ks ++ [(w.getFixed 32).1]) := by
                  rw [take_succ_get hw, keysOf_append, hks]
                  simp only
                  rw [if_pos (by rw [← he5]; exact g5)]
                have hK2 : ar.app K [[.r 32 wv]] = (ks ++ [(w.getFixed 32).1]).map key := by
                  rw [appIs har, hK, List.map_append, hwv]; rfl
                have hib := bulks_len y.getList.1
                have s1 : (K.length + 1) * 32 ≤ 140737488355328 ∧ ∀ y ∈ [[PS.r 32 wv]], rlen y = 32 := ⟨by omega, by simp [rlen, PS.len]⟩
                conv => cbv
                refine ⟨by rw [har]; kernel_rfl, ?_⟩
                refine ⟨wv, hwvl, hcut2, ?_⟩
                conv => cbv
                refine ⟨fun _ => s1, ?_⟩
                refine ⟨⟨(r + 1, ar.ib .add .i64 ri 1, ar.app K [[.r 32 wv]]), hrl, iSucc har hri (by omega), _, hks2, hK2, by rw [List.length_append, hkl]; rfl⟩, ?_, ?_⟩
                · dsimp only
                  conv => cbv
                  simp
                · show y.getList.1.length - (r + 1) < y.getList.1.length - r
                  omega
            · have g' := cNlt har (b := ar.len Q) h
              have hre : r = y.getList.1.length := by omega
              rw [hre, List.take_length] at hks
              rw [hO3, hks] at hk
              have hk : k [.a [.r 20 av, .c (.sl K [])], .s (.v (.bool true))] := by rw [hav, hK]; exact hk
              conv => cbv
              exact hk
  · have g := cNe har (a := e) (b := 0) h
    have hr := hno (by rw [entOf, if_neg (by rw [← he]; exact g)])
    conv => cbv
    exact hr
end Go.Eng
namespace Go.Eng
open Go Go.Proofs
set_option maxRecDepth 100000
set_option maxHeartbeats 4000000
set_option linter.unusedVariables false

def consE (x : Option (List Int × List (List Int))) (l : Option (List Ent)) : Option (List Ent) :=
  match x with
  | some (a, ks) => l.map (⟨a, ks, []⟩ :: ·)
  | none => none
def entsOf : List It → Option (List Ent)
  | [] => some []
  | x :: l => consE (entOf x) (entsOf l)
def parseOf (it : It) : Option (List Ent) := if it.getList.2 = 0 then entsOf it.getList.1 else none
def parseR : Option (List Ent) → List PR
  | some es => [.s (.sl (es.map Ent.row) []), .s (.v (.int .i64 0))]
  | none => [.s (.sl [] []), .s (.v (.int .i64 140))]

theorem entsOf_append : ∀ (a : List It) (x : It), entsOf (a ++ [x]) = match entsOf a, entOf x with | some l, some (b, ks) => some (l ++ [⟨b, ks, []⟩]) | _, _ => none
  | [], x => by
    simp only [List.nil_append, entsOf, consE]
    cases entOf x <;> rfl
  | y :: a, x => by
    simp only [List.cons_append, entsOf]
    rw [entsOf_append a x]
    cases h1 : entOf y with
    | none => cases entsOf a <;> cases entOf x <;> rfl
    | some p => cases entsOf a <;> cases entOf x <;> rfl
theorem entsOf_none : ∀ (a b : List It), entsOf a = none → entsOf (a ++ b) = none
  | [], _, h => by cases h
  | x :: a, b, h => by
    simp only [List.cons_append, entsOf] at h ⊢
    cases h1 : entOf x with
    | none => rfl
    | some p =>
      rw [h1] at h
      cases h2 : entsOf a with
      | none => rw [entsOf_none a b h2]; rfl
      | some l => rw [h2] at h; cases h

theorem parse_sound : Sound Tryd.prog 108 fun args k => ∃ (it : It), args = [.a it.row] ∧ it.bulk ≤ 2 ^ 40 ∧ k (parseR (parseOf it)) := by
  refine Sound.of_body tt_ok ent_ok Tryd.func108 rfl ?_
  rintro ar har Γ hΓ args k ⟨it, hargs, hb, hk⟩
  have callGL : ∀ (it : It) (A : List PS) (B : List (List PS)) (e : Int) (Γ : Ctx) (d' : Nat) (k : List PR → Prop) (R : Prop), Γ = ctx Tryd.prog d' → it.row = A → it.bulk ≤ 2 ^ 40 → B = rowsOf it.getList.1 → e = it.getList.2 → k [.s (.sl B []), .s (.v (.int .i64 e))] → Γ.g 127 [.a A] k ∨ R := fun it A B e Γ d' k R hΓ hA hb hB he hk => call_by hΓ getList_sound ⟨it, by rw [hA], hb, by rw [← hB, ← he]; exact hk⟩
  have callE : ∀ (it : It) (A : List PS) (av : List Value) (K : List (List PS)) (o : Bool) (Γ : Ctx) (d' : Nat) (k : List PR → Prop) (R : Prop), Γ = ctx Tryd.prog d' → it.row = A → it.bulk ≤ 2 ^ 40 → entR (entOf it) = [.a [.r 20 av, .c (.sl K [])], .s (.v (.bool o))] → k [.a [.r 20 av, .c (.sl K [])], .s (.v (.bool o))] → Γ.g 128 [.a A] k ∨ R := fun it A av K o Γ d' k R hΓ hA hb he hk => call_by hΓ entry_sound ⟨it, by rw [hA], hb, by rw [he]; exact hk⟩
  obtain ⟨a, ⟨b1, b2⟩, ⟨c1, c2⟩, hA⟩ := row3 it
  obtain ⟨P, hP⟩ : ∃ P, P = rowsOf it.getList.1 := ⟨_, rfl⟩
  obtain ⟨e, he⟩ : ∃ e, e = it.getList.2 := ⟨_, rfl⟩
  have hPl : ar.len P = (it.getList.1.length : Int) := by rw [lenIs har, hP, rowsOf_length]
  have hPb := getList_bulk it
  have hpl := bulks_len it.getList.1
  rw [hA] at hargs
  have hno : (parseOf it = none) → k [.s (.sl [] []), .s (.v (.int .i64 140))] := fun h => by rw [h] at hk; exact hk
  subst hargs
  conv => cbv
  refine callGL it _ P e _ _ _ _ hΓ hA hb hP he ?_
  conv => cbv
  refine ⟨fun h => ?_, fun h => ?_⟩
  · have g := cNe har (a := e) (b := 0) h
    have hr := hno (by rw [parseOf, if_neg (by rw [← he]; exact g)])
    conv => cbv
    exact hr
  · have g := cNne har (a := e) (b := 0) h
    have hO : parseOf it = entsOf it.getList.1 := by rw [parseOf, if_pos (by rw [← he]; exact g)]
    conv => cbv
    refine .inr ⟨{ q : Nat × Int × List (List PS) // q.1 ≤ it.getList.1.length ∧ q.2.1 = q.1 ∧ ∃ es, entsOf (it.getList.1.take q.1) = some es ∧ q.2.2 = es.map Ent.row ∧ es.length = q.1 },
      fun q => ⟨mk 37 [(2, .s .nil), (3, .s (.lit .i64 0)), (6, .s (.own 1)), (18, .s (.p (.sl P []))), (19, pint (ar.len P)), (20, pint q.1.2.1)], [.gone, .arr q.1.2.2 54 21 48 true]⟩,
      fun q => it.getList.1.length - q.1.1, [.slot 6 54], _, ⟨(0, 0, []), Nat.zero_le _, rfl, [], rfl, rfl, rfl⟩, rfl, ?_, ?_⟩
    · conv => cbv
      simp
    · rintro ⟨⟨r, ri, L⟩, hr⟩
      have hrp : r ≤ it.getList.1.length := hr.1
      have hri : ri = (r : Int) := hr.2.1
      obtain ⟨es, hes, hL, hel⟩ : ∃ es, entsOf (it.getList.1.take r) = some es ∧ L = es.map Ent.row ∧ es.length = r := hr.2.2
      have hLl : L.length = r := by rw [hL, List.length_map, hel]
      dsimp only
      conv => cbv
      refine ⟨fun h => ?_, fun h => ?_⟩
      · have g' := cLt har (b := ar.len P) h
        have hrl : r < it.getList.1.length := by omega
        obtain ⟨w, hw⟩ : ∃ w, it.getList.1[r]? = some w := ⟨_, List.getElem?_eq_getElem hrl⟩
        obtain ⟨wa, ⟨wb1, wb2⟩, ⟨wc1, wc2⟩, hWr⟩ := row3 w
        have hwb := bulk_get hw
        have rw1 : P[ri.toNat]? = some [.c (.v (.bool wa)), .c (.sl wb1 wb2), .c (.sl wc1 wc2)] := by rw [hP, hri, Int.toNat_natCast, rowsOf_get hw, hWr]
        obtain ⟨av, K, o, hE⟩ : ∃ av K o, entR (entOf w) = [.a [.r 20 av, .c (.sl K [])], .s (.v (.bool o))] := by
          cases entOf w with
          | none => exact ⟨_, _, _, rfl⟩
          | some p => obtain ⟨a, ks⟩ := p; exact ⟨_, _, _, rfl⟩
        have hA1 : o = false → entOf w = none := fun h => by
          subst h
          cases h1 : entOf w with
          | none => rfl
          | some p => obtain ⟨a, ks⟩ := p; rw [h1] at hE; simp [entR] at hE
        have hA2 : o = true → ∃ a ks, entOf w = some (a, ks) ∧ av = u8s a ∧ K = ks.map key := fun h => by
          subst h
          cases h1 : entOf w with
          | none => rw [h1] at hE; simp [entR] at hE
          | some p => obtain ⟨a, ks⟩ := p; rw [h1] at hE; simp [entR] at hE; exact ⟨a, ks, rfl, hE.1.symm, hE.2.symm⟩
        conv => cbv
        refine ⟨_, by omega, rw1, rfl, ?_⟩
        conv => cbv
        refine callE w _ av K o _ _ _ _ hΓ hWr (by omega) hE ?_
        conv => cbv
        refine ⟨fun h => ?_, fun h => ?_⟩
        · have g5 := nbT har h
          have hn : entsOf it.getList.1 = none := by
            rw [← List.take_append_drop (r + 1) it.getList.1]
            refine entsOf_none _ _ ?_
            rw [take_succ_get hw, entsOf_append, hes, hA1 g5]
          have hr := hno (by rw [hO, hn])
          conv => cbv
          exact hr
        · have g5 := nbF har h
          obtain ⟨ea, eks, hE1, hE2, hE3⟩ := hA2 g5
          have hes2 : entsOf (it.getList.1.take (r + 1)) = some (es ++ [Ent.mk ea eks []]) := by
            rw [take_succ_get hw, entsOf_append, hes, hE1]
          have hL2 : ar.app L [[.r 20 av, .c (.sl K [])]] = (es ++ [Ent.mk ea eks []]).map Ent.row := by
            rw [appIs har, hL, List.map_append, hE2, hE3]; rfl
          have s1 : (L.length + 1) * 48 ≤ 140737488355328 ∧ ∀ y ∈ [[PS.r 20 av, .c (.sl K [])]], rlen y = 21 := ⟨by omega, by simp [rlen, PS.len]⟩
          conv => cbv
          refine ⟨fun _ => s1, ?_⟩
          refine ⟨⟨(r + 1, ar.ib .add .i64 ri 1, ar.app L [[.r 20 av, .c (.sl K [])]]), hrl, iSucc har hri (by omega), _, hes2, hL2, by rw [List.length_append, hel]; rfl⟩, ?_, ?_⟩
          · dsimp only
            conv => cbv
            simp
          · show it.getList.1.length - (r + 1) < it.getList.1.length - r
            omega
      · have g' := cNlt har (b := ar.len P) h
        have hre : r = it.getList.1.length := by omega
        rw [hre, List.take_length] at hes
        rw [hO, hes] at hk
        have hk : k [.s (.sl L []), .s (.v (.int .i64 0))] := by rw [hL]; exact hk
        conv => cbv
        exact hk
end Go.Eng
namespace Go.Eng
open Go Go.Proofs
set_option maxRecDepth 100000
set_option maxHeartbeats 4000000
set_option linter.unusedVariables false

def numB (n : Nat) : List Int := be n (blen n)
def numIt (n : Nat) : It := It.txt (numB n)
def rtx (D : List (List PS)) : List PS := [.c (.v (.bool false)), .c (.sl D []), .c (.sl [] [])]

theorem rNumber_sound : Sound Tryd.prog 23 fun args k => ∃ n : Nat, args = [pw n] ∧ n < M256 ∧ k [.a (numIt n).row] := by
  refine Sound.of_body tt_ok ent_ok Tryd.func23 rfl ?_
  rintro ar har Γ hΓ args k ⟨n, hargs, hn, hk⟩
  obtain ⟨x, hx⟩ : ∃ x, x = w4 n := ⟨_, rfl⟩
  obtain ⟨D, hD⟩ : ∃ D, D = (numB n).map b8 := ⟨_, rfl⟩
  have hk : k [.a (rtx D)] := by rw [hD]; exact hk
  have hcall : ∀ (Γ : Ctx) (d' : Nat) (k : List PR → Prop) (R : Prop), Γ = ctx Tryd.prog d' → k [.s (.sl D [])] → Γ.g 50 [.a [.r 4 x]] k ∨ R := fun Γ d' k R hΓ hk => call_by hΓ u256Bytes_sound ⟨n, by rw [hx], hn, by rw [hD] at hk; exact hk⟩
  unfold pw at hargs
  rw [← hx] at hargs
  subst hargs
  conv => cbv
  refine hcall _ _ _ _ hΓ ?_
  conv => cbv
  exact hk

theorem rSmall_sound : Sound Tryd.prog 36 fun args k => ∃ n : Nat, args = [.s (.v (.int .u64 n))] ∧ n < 18446744073709551616 ∧ k [.a (numIt n).row] := by
  refine Sound.of_body tt_ok ent_ok Tryd.func36 rfl ?_
  rintro ar har Γ hΓ args k ⟨n, hargs, hn, hk⟩
  obtain ⟨z, hz⟩ : ∃ z : Int, z = (n : Int) := ⟨_, rfl⟩
  obtain ⟨x, hx⟩ : ∃ x, x = w4 n := ⟨_, rfl⟩
  obtain ⟨D, hD⟩ : ∃ D, D = (numB n).map b8 := ⟨_, rfl⟩
  have hk : k [.a (rtx D)] := by rw [hD]; exact hk
  have hcall1 : ∀ (Γ : Ctx) (d' : Nat) (k : List PR → Prop) (R : Prop), Γ = ctx Tryd.prog d' → k [.a [.r 4 x]] → Γ.g 59 [.s (.v (.int .u64 z))] k ∨ R := fun Γ d' k R hΓ hk => call_by hΓ u256From_sound ⟨n, by rw [hz], hn, by unfold pw; rw [← hx]; exact hk⟩
  have hcall2 : ∀ (Γ : Ctx) (d' : Nat) (k : List PR → Prop) (R : Prop), Γ = ctx Tryd.prog d' → k [.a (rtx D)] → Γ.g 23 [.a [.r 4 x]] k ∨ R := fun Γ d' k R hΓ hk => call_by hΓ rNumber_sound ⟨n, by unfold pw; rw [hx], by unfold M256; omega, by rw [hD] at hk; exact hk⟩
  rw [← hz] at hargs
  subst hargs
  conv => cbv
  refine hcall1 _ _ _ _ hΓ ?_
  conv => cbv
  refine hcall2 _ _ _ _ hΓ ?_
  conv => cbv
  exact hk

def Au.parts (u : Au) : List It := [numIt u.ch, It.txt u.a, numIt u.no, numIt u.pa, numIt u.r, numIt u.s]
def Au.it (u : Au) : It := It.lst u.parts
def usIts (us : List Au) : List It := us.map Au.it
def wideU (us : List Au) : Bool := us.any fun u => decide (255 < u.pa)

theorem strips_parts (u : Au) : strips u.parts = u.parts := rfl
theorem strips_us : ∀ us : List Au, strips (usIts us) = usIts us
  | [] => rfl
  | u :: us => by
    show u.it.strip :: strips (usIts us) = _
    rw [strips_us us]; rfl
theorem numB_len {n : Nat} (h : n < M256) : (numB n).length ≤ 32 := by rw [numB, be_length]; exact blen_le h
theorem parts_bulk {u : Au} (h : u.ok) : bulks u.parts ≤ 200 := by
  obtain ⟨h1, h2, h3, h4, h5, h6⟩ := h
  have a1 := numB_len h1
  have a2 := numB_len (show u.no < M256 by unfold M256; omega)
  have a3 := numB_len (show u.pa < M256 by unfold M256; omega)
  have a4 := numB_len h5
  have a5 := numB_len h6
  simp only [Au.parts, bulks, numIt, It.txt, It.bulk]
  omega
theorem us_bulk : ∀ us : List Au, (∀ u ∈ us, u.ok) → bulks (usIts us) ≤ 201 * us.length
  | [], _ => Nat.le_refl _
  | u :: us, h => by
    have h1 := us_bulk us fun x hx => h x (by simp [hx])
    have h2 := parts_bulk (h u (by simp))
    show u.it.bulk + bulks (usIts us) ≤ _
    rw [Au.it, It.lst, It.bulk, List.length_nil, List.length_cons]
    omega

def authItR (us : List Au) : List PR := if wideU us = true then [.a It.zero.row, .s (.v (.int .i64 141))] else [.a (if errOf (It.lst (usIts us)) = 0 then It.lst (usIts us) else .zero).row, .s (.v (.int .i64 (if errOf (It.lst (usIts us)) = 0 then 0 else 2)))]

theorem authItem_sound : Sound Tryd.prog 102 fun args k => ∃ (us : List Au) (s : List (List PS)), args = [.s (.sl (us.map Au.row) s)] ∧ (∀ u ∈ us, u.ok) ∧ us.length ≤ 2 ^ 30 ∧ k (authItR us) := by
  refine Sound.of_body tt_ok ent_ok Tryd.func102 rfl ?_
  rintro ar har Γ hΓ args k ⟨us, s, hargs, hok, hb, hk⟩
  obtain ⟨X, hX⟩ : ∃ X, X = us.map Au.row := ⟨_, rfl⟩
  have hXl : ar.len X = (us.length : Int) := by rw [lenIs har, hX, List.length_map]
  have callX : ∀ (W s : List (List PS)) (w : List Int) (C : List (List PS)) (Γ : Ctx) (d' : Nat) (k : List PR → Prop), Γ = ctx Tryd.prog d' → C = W → W = w.map b8 → w.length ≤ 2 ^ 40 → k [.a (rtx W)] → Γ.g 35 [.s (.sl C s)] k := fun W s w C Γ d' k hΓ hc hw hl hk => call_by' hΓ text_sound ⟨w, s, by rw [hc, hw], hl, by rw [hw] at hk; exact hk⟩
  have callL : ∀ (J : List (List PS)) (its : List It) (Γ : Ctx) (d' : Nat) (k : List PR → Prop), Γ = ctx Tryd.prog d' → strips its = its → J = rowsOf its → bulks its ≤ 2 ^ 40 → k [.a [.c (.v (.bool true)), .c (.sl [] []), .c (.sl J [])]] → Γ.g 25 [.s (.sl J [])] k := fun J its Γ d' k hΓ hs hJ hl hk => call_by' hΓ list_sound ⟨its, [], by rw [hJ], hl, by rw [hs]; rw [hJ] at hk; exact hk⟩
  have callN : ∀ (n : Nat) (x : List Value) (D : List (List PS)) (Γ : Ctx) (d' : Nat) (k : List PR → Prop), Γ = ctx Tryd.prog d' → x = w4 n → n < M256 → D = (numB n).map b8 → k [.a (rtx D)] → Γ.g 23 [.a [.r 4 x]] k := fun n x D Γ d' k hΓ hx hn hD hk => call_by' hΓ rNumber_sound ⟨n, by unfold pw; rw [hx], hn, by rw [hD] at hk; exact hk⟩
  have callS : ∀ (n : Nat) (z : Int) (D : List (List PS)) (Γ : Ctx) (d' : Nat) (k : List PR → Prop), Γ = ctx Tryd.prog d' → z = n → n < 18446744073709551616 → D = (numB n).map b8 → k [.a (rtx D)] → Γ.g 36 [.s (.v (.int .u64 z))] k := fun n z D Γ d' k hΓ hz hn hD hk => call_by' hΓ rSmall_sound ⟨n, by rw [hz], hn, by rw [hD] at hk; exact hk⟩
  have hub := us_bulk us hok
  rw [← hX] at hargs
  subst hargs
  conv => cbv
  refine .inr ⟨{ q : Nat × Int × List (List PS) // q.1 ≤ us.length ∧ q.2.1 = q.1 ∧ q.2.2 = rowsOf (usIts (us.take q.1)) ∧ wideU (us.take q.1) = false },
    fun q => ⟨mk 46 [(2, .s (.ptr 0 0)), (3, .s (.lit .i64 0)), (4, .s (.own 1)), (7, .s (.p (.sl X s))), (8, pint (ar.len X)), (9, pint q.1.2.1)], [.box [.c (.bl false), .c .nil, .c .nil], .arr q.1.2.2 61 3 56 true]⟩,
    fun q => us.length - q.1.1, [.slot 4 61], _, ⟨(0, 0, []), Nat.zero_le _, rfl, rfl, rfl⟩, rfl, ?_, ?_⟩
  · conv => cbv
    simp
  · rintro ⟨⟨p, pi, Z⟩, hq⟩
    have hp : p ≤ us.length := hq.1
    have hpi : pi = (p : Int) := hq.2.1
    have hZ : Z = rowsOf (usIts (us.take p)) := hq.2.2.1
    have hw : wideU (us.take p) = false := hq.2.2.2
    dsimp only
    conv => cbv
    refine ⟨fun h => ?_, fun h => ?_⟩
    · have g := cLt har (b := ar.len X) h
      have hlt : p < us.length := by omega
      obtain ⟨u, hx⟩ : ∃ e, us[p]? = some e := ⟨_, List.getElem?_eq_getElem hlt⟩
      have huk := hok u (List.mem_of_getElem? hx)
      have hpb := parts_bulk huk
      obtain ⟨c1, hc1⟩ : ∃ x, x = w4 u.ch := ⟨_, rfl⟩
      obtain ⟨c2, hc2⟩ : ∃ x, x = u8s u.a := ⟨_, rfl⟩
      obtain ⟨c3, hc3⟩ : ∃ x : Int, x = u.no := ⟨_, rfl⟩
      obtain ⟨c4, hc4⟩ : ∃ x : Int, x = u.pa := ⟨_, rfl⟩
      obtain ⟨c5, hc5⟩ : ∃ x, x = w4 u.r := ⟨_, rfl⟩
      obtain ⟨c6, hc6⟩ : ∃ x, x = w4 u.s := ⟨_, rfl⟩
      obtain ⟨D1, hD1⟩ : ∃ x, x = (numB u.ch).map b8 := ⟨_, rfl⟩
      obtain ⟨D2, hD2⟩ : ∃ x, x = u.a.map b8 := ⟨_, rfl⟩
      obtain ⟨D3, hD3⟩ : ∃ x, x = (numB u.no).map b8 := ⟨_, rfl⟩
      obtain ⟨D4, hD4⟩ : ∃ x, x = (numB u.pa).map b8 := ⟨_, rfl⟩
      obtain ⟨D5, hD5⟩ : ∃ x, x = (numB u.r).map b8 := ⟨_, rfl⟩
      obtain ⟨D6, hD6⟩ : ∃ x, x = (numB u.s).map b8 := ⟨_, rfl⟩
      have rx : X[pi.toNat]? = some [.r 4 c1, .r 20 c2, .c (.v (.int .u64 c3)), .c (.v (.int .u64 c4)), .r 4 c5, .r 4 c6] := by rw [hX, hpi]; simp [hx, Au.row, hc1, hc2, hc3, hc4, hc5, hc6]
      have hcc : ar.cells c2 = D2 := by rw [hc2, hD2, bytes_cells ar har]
      obtain ⟨u1, u2, u3, u4, u5, u6⟩ := huk
      have wide1 : c4 > 255 → wideU us = true := fun h => by
        rw [wideU, List.any_eq_true]
        exact ⟨u, List.mem_of_getElem? hx, by rw [decide_eq_true_eq]; omega⟩
      have wide2 : ¬ c4 > 255 → wideU (us.take (p + 1)) = false := fun h => by
        rw [wideU, take_succ_get hx, List.any_append, ← wideU, hw, Bool.false_or, List.any_cons, List.any_nil, Bool.or_false, decide_eq_false_iff_not]; omega
      obtain ⟨J, hJ⟩ : ∃ J, J = rowsOf u.parts := ⟨_, rfl⟩
      have hJ2 : J = [rtx D1, rtx D2, rtx D3, rtx D4, rtx D5, rtx D6] := by rw [hJ, hD1, hD2, hD3, hD4, hD5, hD6]; rfl
      have callJ := fun (Γ : Ctx) (d' : Nat) (k : List PR → Prop) (h1 : Γ = ctx Tryd.prog d') (h2) => callL J u.parts Γ d' k h1 (strips_parts u) hJ (by omega) h2
      have s1 : (Z.length + 1) * 56 ≤ 140737488355328 ∧ ∀ y ∈ [[PS.c (.v (.bool true)), .c (.sl [] []), .c (.sl J [])]], rlen y = 3 := ⟨by rw [hZ, rowsOf_length, usIts, List.length_map, List.length_take]; omega, by simp [rlen, PS.len]⟩
      have hZ2 : ar.app Z [[PS.c (.v (.bool true)), .c (.sl [] []), .c (.sl J [])]] = rowsOf (usIts (us.take (p + 1))) := by
        rw [appIs har, hZ, take_succ_get hx, usIts, usIts, List.map_append, rowsOf_append, hJ]; rfl
      rw [hJ2] at callJ s1 hZ2
      conv => cbv
      refine ⟨_, by omega, rx, rfl, ?_⟩
      conv => cbv
      refine ⟨fun h => ?_, fun h => ?_⟩
      · have g2 := cGt har (a := c4) (b := 255) h
        rw [authItR, if_pos (wide1 g2)] at hk
        conv => cbv
        exact hk
      · have g2 := cNgt har (a := c4) (b := 255) h
        have hw2 := wide2 (by omega)
        conv => cbv
        refine ⟨by rw [har]; kernel_rfl, ?_⟩
        refine callN u.ch c1 D1 _ _ _ hΓ hc1 u1 hD1 ?_
        conv => cbv
        refine callX D2 [] u.a _ _ _ _ hΓ hcc hD2 (by omega) ?_
        conv => cbv
        refine callS u.no c3 D3 _ _ _ hΓ hc3 u3 hD3 ?_
        conv => cbv
        refine callS u.pa c4 D4 _ _ _ hΓ hc4 u4 hD4 ?_
        conv => cbv
        refine callN u.r c5 D5 _ _ _ hΓ hc5 u5 hD5 ?_
        conv => cbv
        refine callN u.s c6 D6 _ _ _ hΓ hc6 u6 hD6 ?_
        conv => cbv
        refine callJ _ _ _ hΓ ?_
        conv => cbv
        refine ⟨fun _ => s1, ?_⟩
        refine ⟨⟨(p + 1, ar.ib .add .i64 pi 1, ar.app Z [[PS.c (.v (.bool true)), .c (.sl [] []), .c (.sl [rtx D1, rtx D2, rtx D3, rtx D4, rtx D5, rtx D6] [])]]), hlt, iSucc har hpi (by omega), hZ2, hw2⟩, ?_, ?_⟩
        · dsimp only
          conv => cbv
          simp
        · show us.length - (p + 1) < us.length - p
          omega
    · have g := cNlt har (b := ar.len X) h
      have hpe : p = us.length := by omega
      rw [hpe, List.take_length] at hZ hw
      obtain ⟨F, hF⟩ : ∃ F, F = (if errOf (It.lst (usIts us)) = 0 then It.lst (usIts us) else .zero).row := ⟨_, rfl⟩
      obtain ⟨fe, hfe⟩ : ∃ fe : Int, fe = (if errOf (It.lst (usIts us)) = 0 then 0 else 2) := ⟨_, rfl⟩
      have callF : ∀ (Γ : Ctx) (d' : Nat) (k : List PR → Prop) (R : Prop), Γ = ctx Tryd.prog d' → k [.a F, .s (.v (.int .i64 fe))] → Γ.g 123 [.a [.c (.v (.bool true)), .c (.sl [] []), .c (.sl Z [])]] k ∨ R := fun Γ d' k R hΓ hk => call_by hΓ fitting_sound ⟨It.lst (usIts us), by rw [hZ]; rfl, by simp only [It.lst, It.bulk, List.length_nil]; omega, by rw [hF, hfe] at hk; exact hk⟩
      rw [authItR, hw, if_neg (by decide), ← hF, ← hfe] at hk
      obtain ⟨a, ⟨b1, b2⟩, ⟨c1, c2⟩, hA2⟩ := row3 (if errOf (It.lst (usIts us)) = 0 then It.lst (usIts us) else .zero)
      rw [← hF] at hA2
      subst hA2
      have callL' : ∀ (Γ : Ctx) (d' : Nat) (k : List PR → Prop) (R : Prop), Γ = ctx Tryd.prog d' → k [.a [.c (.v (.bool true)), .c (.sl [] []), .c (.sl Z [])]] → Γ.g 25 [.s (.sl Z [])] k ∨ R := fun Γ d' k R h1 h2 => .inl (callL Z (usIts us) Γ d' k h1 (strips_us us) hZ (by omega) h2)
      conv => cbv
      refine callL' _ _ _ _ hΓ ?_
      conv => cbv
      refine callF _ _ _ _ hΓ ?_
      conv => cbv
      exact hk
end Go.Eng
