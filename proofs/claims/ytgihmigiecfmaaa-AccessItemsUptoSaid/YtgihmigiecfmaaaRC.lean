/-
  access.entry, Parse: an item as an access list. Condition: sizes up to 2^40.
  access.Parse: an item as an access list. Condition: sizes up to 2^40.
  rlp.Number, Small; access.AuthItem. Condition: sizes up to 2^40.
  u256.Get, Strict: bytes as a number. Condition: bytes in their range.
  rlp.number, GetNumber, GetSmall. Conditions: bytes in their range, at most 2^40 nodes and bytes.
  access.auth: an item as an authorization. Conditions: bytes in their range, at most 2^40 nodes and bytes.
  access.ParseAuth: an item as authorizations. Conditions: bytes in their range, sizes up to 2^40.
  waybilllaw14: num, sameAuths. Condition: at most 2^30 authorizations.
  What AccessBack comes to, in plain words: what is read of the item of a list, of authorizations, is the list, the authorizations. No program in sight.
  waybillref07: Beyond answers (whatever); Same tells that two items that differ in their spare room alone are the same. Condition: at most 2^30 nodes and bytes.
-/
import Derived.Test.YtgihmigiecfmaaaRA
import Derived.Test.YtgihmigiecfmaaaUA
namespace Go.Eng
open Go Go.Proofs
set_option maxRecDepth 100000
set_option maxHeartbeats 4000000
set_option linter.unusedVariables false

def keysOf : List It → Option (List (List Int))
  | [] => some []
  | x :: l => if (x.getFixed 32).2 = 0 then (keysOf l).map ((x.getFixed 32).1 :: ·) else none

def entKs (a : List Int) (y : It) : Option (List Int × List (List Int)) := if y.getList.2 = 0 then (keysOf y.getList.1).map (a, ·) else none
def entXY : List It → Option (List Int × List (List Int))
  | [x, y] => if (x.getFixed 20).2 = 0 then entKs (x.getFixed 20).1 y else none
  | _ => none
def entOf (it : It) : Option (List Int × List (List Int)) := if it.getList.2 = 0 then entXY it.getList.1 else none

def z20 : List Value := List.replicate 20 (.int .u8 0)
def entR : Option (List Int × List (List Int)) → List PR
  | some (a, ks) => [.a [.r 20 (u8s a), .c (.sl (ks.map key) [])], .s (.v (.bool true))]
  | none => [.a [.r 20 z20, .c (.sl [] [])], .s (.v (.bool false))]

theorem fixR_len {n : Nat} {e : Int} {d : List Int} (h : (fixR n e d).2 = 0) : (fixR n e d).1.length = n := by
  unfold fixR at h ⊢
  by_cases h1 : e = 0
  · by_cases h2 : d.length = n
    · rw [if_pos h1, if_pos h2]; exact h2
    · rw [if_pos h1, if_neg h2] at h; cases h
  · rw [if_neg h1] at h; contradiction
theorem getFixed_len {n : Nat} {x : It} (h : (x.getFixed n).2 = 0) : (x.getFixed n).1.length = n := fixR_len h
theorem keysOf_append : ∀ (a : List It) (x : It), keysOf (a ++ [x]) = match keysOf a with | some l => if (x.getFixed 32).2 = 0 then some (l ++ [(x.getFixed 32).1]) else none | none => none
  | [], x => by simp only [List.nil_append, keysOf]; split <;> simp
  | y :: a, x => by
    simp only [List.cons_append, keysOf]
    split
    · rw [keysOf_append a x]
      cases keysOf a with
      | none => rfl
      | some l => simp only [Option.map_some]; split <;> simp
    · rfl
theorem keysOf_none : ∀ (a b : List It), keysOf a = none → keysOf (a ++ b) = none
  | [], _, h => by cases h
  | x :: a, b, h => by
    simp only [List.cons_append, keysOf] at h ⊢
    split
    · rename_i h1
      rw [if_pos h1] at h
      cases h2 : keysOf a with
      | none => rw [keysOf_none a b h2]; rfl
      | some l => rw [h2] at h; cases h
    · rfl
theorem strip_bulk : ∀ x : It, x.strip.bulk = x.bulk
  | .mk l d sd its ss => by
    have : ∀ its : List It, (∀ x ∈ its, x.strip.bulk = x.bulk) → bulks (strips its) = bulks its := by
      intro its
      induction its with
      | nil => intro _; rfl
      | cons x xs ih => intro h; simp only [strips, bulks]; rw [h x (by simp), ih fun y hy => h y (by simp [hy])]
    simp only [It.strip, It.bulk]
    rw [this its fun x hx => strip_bulk x]
termination_by x => x.bulk
decreasing_by
  have := bulk_mem hx
  simp only [It.bulk]; omega
theorem strips_bulk (its : List It) : bulks (strips its) = bulks its := by
  induction its with
  | nil => rfl
  | cons x xs ih => simp only [strips, bulks]; rw [strip_bulk, ih]
theorem getList_bulk (it : It) : bulks it.getList.1 ≤ it.bulk := by
  unfold It.getList
  split
  · show bulks (strips it.its) ≤ _
    rw [strips_bulk]; cases it; simp only [It.its, It.bulk]; omega
  · exact Nat.zero_le _

theorem take20 {n : Nat} {d : List Int} {D : List (List PS)} (hD : D = d.map b8) (h : d.length = n) : D.take n = (u8s d).map fun w => [PS.c (.v w)] := by
  rw [List.take_of_length_le (by rw [hD, List.length_map]; omega), hD, u8s, List.map_map]; rfl

theorem entXY_none : ∀ l : List It, l.length ≠ 2 → entXY l = none
  | [], _ => rfl
  | [_], _ => rfl
  | [_, _], h => absurd rfl h
  | _ :: _ :: _ :: _, _ => rfl
theorem two_of : ∀ l : List It, l.length = 2 → ∃ x y, l = [x, y]
  | [x, y], _ => ⟨x, y, rfl⟩

theorem entry_sound : Sound Try.prog 35 fun args k => ∃ (it : It), args = [.a it.row] ∧ it.bulk ≤ 2 ^ 40 ∧ k (entR (entOf it)) := by
  refine Sound.of_body tt_ok ent_ok Try.func35 rfl ?_
  rintro ar har Γ hΓ args k ⟨it, hargs, hb, hk⟩
  have callGL : ∀ (it : It) (A : List PS) (B : List (List PS)) (e : Int) (Γ : Ctx) (d' : Nat) (k : List PR → Prop) (R : Prop), Γ = ctx Try.prog d' → it.row = A → it.bulk ≤ 2 ^ 40 → B = rowsOf it.getList.1 → e = it.getList.2 → k [.s (.sl B []), .s (.v (.int .i64 e))] → Γ.g 34 [.a A] k ∨ R := fun it A B e Γ d' k R hΓ hA hb hB he hk => call_by hΓ getList_sound ⟨it, by rw [hA], hb, by rw [← hB, ← he]; exact hk⟩
  have callGF : ∀ (it : It) (n : Nat) (m : Int) (A : List PS) (B : List (List PS)) (e : Int) (Γ : Ctx) (d' : Nat) (k : List PR → Prop) (R : Prop), Γ = ctx Try.prog d' → m = (n : Int) → it.row = A → it.bulk ≤ 2 ^ 40 → B = (it.getFixed n).1.map b8 → e = (it.getFixed n).2 → k [.s (.sl B []), .s (.v (.int .i64 e))] → Γ.g 50 [.a A, .s (.v (.int .i64 m))] k ∨ R := fun it n m A B e Γ d' k R hΓ hm hA hb hB he hk => call_by hΓ getFixed_sound ⟨it, n, by rw [hA, hm], hb, by rw [← hB, ← he]; exact hk⟩
  obtain ⟨a, ⟨b1, b2⟩, ⟨c1, c2⟩, hA⟩ := row3 it
  obtain ⟨P, hP⟩ : ∃ P, P = rowsOf it.getList.1 := ⟨_, rfl⟩
  obtain ⟨e, he⟩ : ∃ e, e = it.getList.2 := ⟨_, rfl⟩
  have hPl : ar.len P = (it.getList.1.length : Int) := by rw [lenIs har, hP, rowsOf_length]
  have hPb := getList_bulk it
  rw [hA] at hargs
  have hno : (entOf it = none) → k [.a [.r 20 z20, .c (.sl [] [])], .s (.v (.bool false))] := fun h => by rw [h] at hk; exact hk
  subst hargs
  conv => cbv
  refine callGL it _ P e _ _ _ _ hΓ hA hb hP he ?_
  conv => cbv
  refine ⟨fun h => ?_, fun h => ?_⟩
  · have g := cNne har (a := e) (b := 0) h
    have hO : entOf it = entXY it.getList.1 := by rw [entOf, if_pos (by rw [← he]; exact g)]
    conv => cbv
    refine ⟨fun h => ?_, fun h => ?_⟩
    · have g2 := cNe har (a := ar.len P) (b := 2) h
      have hr := hno (by rw [hO]; exact entXY_none _ (by omega))
      conv => cbv
      exact hr
    · have g2 := cNne har (a := ar.len P) (b := 2) h
      obtain ⟨x, y, hxy⟩ : ∃ x y, it.getList.1 = [x, y] := two_of _ (by omega)
      rw [hxy] at hP hO hPb
      simp only [bulks] at hPb
      obtain ⟨xa, ⟨xb1, xb2⟩, ⟨xc1, xc2⟩, hX⟩ := row3 x
      obtain ⟨ya, ⟨yb1, yb2⟩, ⟨yc1, yc2⟩, hYr⟩ := row3 y
      have rx : P[(0 : Int).toNat]? = some [.c (.v (.bool xa)), .c (.sl xb1 xb2), .c (.sl xc1 xc2)] := by rw [hP, ← hX]; rfl
      have ry : P[(1 : Int).toNat]? = some [.c (.v (.bool ya)), .c (.sl yb1 yb2), .c (.sl yc1 yc2)] := by rw [hP, ← hYr]; rfl
      obtain ⟨D, hD⟩ : ∃ D, D = (x.getFixed 20).1.map b8 := ⟨_, rfl⟩
      obtain ⟨e2, he2⟩ : ∃ e, e = (x.getFixed 20).2 := ⟨_, rfl⟩
      obtain ⟨Q, hQ⟩ : ∃ P, P = rowsOf y.getList.1 := ⟨_, rfl⟩
      obtain ⟨e3, he3⟩ : ∃ e, e = y.getList.2 := ⟨_, rfl⟩
      have hQl : ar.len Q = (y.getList.1.length : Int) := by rw [lenIs har, hQ, rowsOf_length]
      have hQb := getList_bulk y
      obtain ⟨av, hav⟩ : ∃ av, av = u8s (x.getFixed 20).1 := ⟨_, rfl⟩
      conv => cbv
      refine ⟨_, by omega, rx, rfl, ?_⟩
      conv => cbv
      refine callGF x 20 20 _ D e2 _ _ _ _ hΓ rfl hX (by omega) hD he2 ?_
      conv => cbv
      refine ⟨fun h => ?_, fun h => ?_⟩
      · have g3 := cNe har (a := e2) (b := 0) h
        have hr := hno (by rw [hO, entXY, if_neg (by rw [← he2]; exact g3)])
        conv => cbv
        exact hr
      · have g3 := cNne har (a := e2) (b := 0) h
        have hO2 : entOf it = entKs (x.getFixed 20).1 y := by rw [hO, entXY, if_pos (by rw [← he2]; exact g3)]
        have hlen20 : (x.getFixed 20).1.length = 20 := getFixed_len (by rw [← he2]; exact g3)
        have hcut := take20 hD hlen20
        rw [← hav] at hcut
        have havl : av.length = 20 := by rw [hav, u8s, List.length_map, hlen20]
        conv => cbv
        refine ⟨_, by omega, ry, rfl, ?_⟩
        conv => cbv
        refine callGL y _ Q e3 _ _ _ _ hΓ hYr (by omega) hQ he3 ?_
        conv => cbv
        refine ⟨fun h => ?_, fun h => ?_⟩
        · have g4 := cNe har (a := e3) (b := 0) h
          have hr := hno (by rw [hO2, entKs, if_neg (by rw [← he3]; exact g4)])
          conv => cbv
          exact hr
        · have g4 := cNne har (a := e3) (b := 0) h
          have hO3 : entOf it = (keysOf y.getList.1).map ((x.getFixed 20).1, ·) := by rw [hO2, entKs, if_pos (by rw [← he3]; exact g4)]
          conv => cbv
          refine ⟨av, havl, hcut, ?_⟩
          conv => cbv
          refine .inr ⟨{ q : Nat × Int × List (List PS) // q.1 ≤ y.getList.1.length ∧ q.2.1 = q.1 ∧ ∃ ks, keysOf (y.getList.1.take q.1) = some ks ∧ q.2.2 = ks.map key ∧ ks.length = q.1 },
            fun q => ⟨mk 74 [(2, .s (.ptr 1 0)), (3, .s (.bl false)), (8, .s (.ptr 2 0)), (50, .s (.p (.sl Q []))), (51, pint (ar.len Q)), (52, pint q.1.2.1)], [.gone, .box [.r 20 (List.replicate 20 (.int .u8 0)), .c .nil], .box [.r 20 av, .c (.own 3)], .arr q.1.2.2 64 32 32 true]⟩,
            fun q => y.getList.1.length - q.1.1, [.cell 2 20 64], _, ⟨(0, 0, []), Nat.zero_le _, rfl, [], rfl, rfl, rfl⟩, rfl, ?_, ?_⟩
          · conv => cbv
            simp
          · rintro ⟨⟨r, ri, K⟩, hr⟩
            have hrp : r ≤ y.getList.1.length := hr.1
            have hri : ri = (r : Int) := hr.2.1
            obtain ⟨ks, hks, hK, hkl⟩ : ∃ ks, keysOf (y.getList.1.take r) = some ks ∧ K = ks.map key ∧ ks.length = r := hr.2.2
            have hKl : K.length = r := by rw [hK, List.length_map, hkl]
            dsimp only
            conv => cbv
            refine ⟨fun h => ?_, fun h => ?_⟩
            · have g' := cLt har (b := ar.len Q) h
              have hrl : r < y.getList.1.length := by omega
              obtain ⟨w, hw⟩ : ∃ w, y.getList.1[r]? = some w := ⟨_, List.getElem?_eq_getElem hrl⟩
              obtain ⟨wa, ⟨wb1, wb2⟩, ⟨wc1, wc2⟩, hWr⟩ := row3 w
              have hwb := bulk_get hw
              have rw1 : Q[ri.toNat]? = some [.c (.v (.bool wa)), .c (.sl wb1 wb2), .c (.sl wc1 wc2)] := by rw [hQ, hri, Int.toNat_natCast, rowsOf_get hw, hWr]
              obtain ⟨D', hD'⟩ : ∃ D, D = (w.getFixed 32).1.map b8 := ⟨_, rfl⟩
              obtain ⟨e5, he5⟩ : ∃ e, e = (w.getFixed 32).2 := ⟨_, rfl⟩
              obtain ⟨wv, hwv⟩ : ∃ av, av = u8s (w.getFixed 32).1 := ⟨_, rfl⟩
              conv => cbv
              refine ⟨_, by omega, rw1, rfl, ?_⟩
              conv => cbv
              refine callGF w 32 32 _ D' e5 _ _ _ _ hΓ rfl hWr (by omega) hD' he5 ?_
              conv => cbv
              refine ⟨fun h => ?_, fun h => ?_⟩
              · have g5 := cNe har (a := e5) (b := 0) h
                have hn : keysOf y.getList.1 = none := by
                  rw [← List.take_append_drop (r + 1) y.getList.1]
                  refine keysOf_none _ _ ?_
                  rw [take_succ_get hw, keysOf_append, hks]
                  simp only
                  rw [if_neg (by rw [← he5]; exact g5)]
                have hr := hno (by rw [hO3, hn]; rfl)
                conv => cbv
                exact hr
              · have g5 := cNne har (a := e5) (b := 0) h
                have hlen32 : (w.getFixed 32).1.length = 32 := getFixed_len (by rw [← he5]; exact g5)
                have hcut2 := take20 hD' hlen32
                rw [← hwv] at hcut2
                have hwvl : wv.length = 32 := by rw [hwv, u8s, List.length_map, hlen32]
                have hks2 : keysOf (y.getList.1.take (r + 1)) = some (ks ++ [(w.getFixed 32).1]) := by
                  rw [take_succ_get hw, keysOf_append, hks]
                  simp only
                  rw [if_pos (by rw [← he5]; exact g5)]
                have hK2 : ar.app K [[.r 32 wv]] = (ks ++ [(w.getFixed 32).1]).map key := by
                  rw [appIs har, hK, List.map_append, hwv]; rfl
                have hib := bulks_len y.getList.1
                have s1 : (K.length + 1) * 32 ≤ 140737488355328 ∧ ∀ y ∈ [[PS.r 32 wv]], rlen y = 32 := ⟨by omega, by simp [rlen, PS.len]⟩
                conv => cbv
                refine ⟨by rw [har]; kernel_rfl, ?_⟩
                refine ⟨wv, hwvl, hcut2, ?_⟩
                conv => cbv
                refine ⟨fun _ => s1, ?_⟩
                refine ⟨⟨(r + 1, ar.ib .add .i64 ri 1, ar.app K [[.r 32 wv]]), hrl, iSucc har hri (by omega), _, hks2, hK2, by rw [List.length_append, hkl]; rfl⟩, ?_, ?_⟩
                · dsimp only
                  conv => cbv
                  simp
                · show y.getList.1.length - (r + 1) < y.getList.1.length - r
                  omega
            · have g' := cNlt har (b := ar.len Q) h
              have hre : r = y.getList.1.length := by omega
              rw [hre, List.take_length] at hks
              rw [hO3, hks] at hk
              have hk : k [.a [.r 20 av, .c (.sl K [])], .s (.v (.bool true))] := by rw [hav, hK]; exact hk
              conv => cbv
              exact hk
  · have g := cNe har (a := e) (b := 0) h
    have hr := hno (by rw [entOf, if_neg (by rw [← he]; exact g)])
    conv => cbv
    exact hr
end Go.Eng
namespace Go.Eng
open Go Go.Proofs
set_option maxRecDepth 100000
set_option maxHeartbeats 4000000
set_option linter.unusedVariables false

def consE (x : Option (List Int × List (List Int))) (l : Option (List Ent)) : Option (List Ent) :=
  match x with
  | some (a, ks) => l.map (⟨a, ks, []⟩ :: ·)
  | none => none
def entsOf : List It → Option (List Ent)
  | [] => some []
  | x :: l => consE (entOf x) (entsOf l)
def parseOf (it : It) : Option (List Ent) := if it.getList.2 = 0 then entsOf it.getList.1 else none
def parseR : Option (List Ent) → List PR
  | some es => [.s (.sl (es.map Ent.row) []), .s (.v (.int .i64 0))]
  | none => [.s (.sl [] []), .s (.v (.int .i64 140))]

theorem entsOf_append : ∀ (a : List It) (x : It), entsOf (a ++ [x]) = match entsOf a, entOf x with | some l, some (b, ks) => some (l ++ [⟨b, ks, []⟩]) | _, _ => none
  | [], x => by
    simp only [List.nil_append, entsOf, consE]
    cases entOf x <;> rfl
  | y :: a, x => by
    simp only [List.cons_append, entsOf]
    rw [entsOf_append a x]
    cases h1 : entOf y with
    | none => cases entsOf a <;> cases entOf x <;> rfl
    | some p => cases entsOf a <;> cases entOf x <;> rfl
theorem entsOf_none : ∀ (a b : List It), entsOf a = none → entsOf (a ++ b) = none
  | [], _, h => by cases h
  | x :: a, b, h => by
    simp only [List.cons_append, entsOf] at h ⊢
    cases h1 : entOf x with
    | none => rfl
    | some p =>
      rw [h1] at h
      cases h2 : entsOf a with
      | none => rw [entsOf_none a b h2]; rfl
      | some l => rw [h2] at h; cases h

theorem parse_sound : Sound Try.prog 19 fun args k => ∃ (it : It), args = [.a it.row] ∧ it.bulk ≤ 2 ^ 40 ∧ k (parseR (parseOf it)) := by
  refine Sound.of_body tt_ok ent_ok Try.func19 rfl ?_
  rintro ar har Γ hΓ args k ⟨it, hargs, hb, hk⟩
  have callGL : ∀ (it : It) (A : List PS) (B : List (List PS)) (e : Int) (Γ : Ctx) (d' : Nat) (k : List PR → Prop) (R : Prop), Γ = ctx Try.prog d' → it.row = A → it.bulk ≤ 2 ^ 40 → B = rowsOf it.getList.1 → e = it.getList.2 → k [.s (.sl B []), .s (.v (.int .i64 e))] → Γ.g 34 [.a A] k ∨ R := fun it A B e Γ d' k R hΓ hA hb hB he hk => call_by hΓ getList_sound ⟨it, by rw [hA], hb, by rw [← hB, ← he]; exact hk⟩
  have callE : ∀ (it : It) (A : List PS) (av : List Value) (K : List (List PS)) (o : Bool) (Γ : Ctx) (d' : Nat) (k : List PR → Prop) (R : Prop), Γ = ctx Try.prog d' → it.row = A → it.bulk ≤ 2 ^ 40 → entR (entOf it) = [.a [.r 20 av, .c (.sl K [])], .s (.v (.bool o))] → k [.a [.r 20 av, .c (.sl K [])], .s (.v (.bool o))] → Γ.g 35 [.a A] k ∨ R := fun it A av K o Γ d' k R hΓ hA hb he hk => call_by hΓ entry_sound ⟨it, by rw [hA], hb, by rw [he]; exact hk⟩
  obtain ⟨a, ⟨b1, b2⟩, ⟨c1, c2⟩, hA⟩ := row3 it
  obtain ⟨P, hP⟩ : ∃ P, P = rowsOf it.getList.1 := ⟨_, rfl⟩
  obtain ⟨e, he⟩ : ∃ e, e = it.getList.2 := ⟨_, rfl⟩
  have hPl : ar.len P = (it.getList.1.length : Int) := by rw [lenIs har, hP, rowsOf_length]
  have hPb := getList_bulk it
  have hpl := bulks_len it.getList.1
  rw [hA] at hargs
  have hno : (parseOf it = none) → k [.s (.sl [] []), .s (.v (.int .i64 140))] := fun h => by rw [h] at hk; exact hk
  subst hargs
  conv => cbv
  refine callGL it _ P e _ _ _ _ hΓ hA hb hP he ?_
  conv => cbv
  refine ⟨fun h => ?_, fun h => ?_⟩
  · have g := cNe har (a := e) (b := 0) h
    have hr := hno (by rw [parseOf, if_neg (by rw [← he]; exact g)])
    conv => cbv
    exact hr
  · have g := cNne har (a := e) (b := 0) h
    have hO : parseOf it = entsOf it.getList.1 := by rw [parseOf, if_pos (by rw [← he]; exact g)]
    conv => cbv
    refine .inr ⟨{ q : Nat × Int × List (List PS) // q.1 ≤ it.getList.1.length ∧ q.2.1 = q.1 ∧ ∃ es, entsOf (it.getList.1.take q.1) = some es ∧ q.2.2 = es.map Ent.row ∧ es.length = q.1 },
      fun q => ⟨mk 37 [(2, .s .nil), (3, .s (.lit .i64 0)), (6, .s (.own 1)), (18, .s (.p (.sl P []))), (19, pint (ar.len P)), (20, pint q.1.2.1)], [.gone, .arr q.1.2.2 62 21 48 true]⟩,
      fun q => it.getList.1.length - q.1.1, [.slot 6 62], _, ⟨(0, 0, []), Nat.zero_le _, rfl, [], rfl, rfl, rfl⟩, rfl, ?_, ?_⟩
    · conv => cbv
      simp
    · rintro ⟨⟨r, ri, L⟩, hr⟩
      have hrp : r ≤ it.getList.1.length := hr.1
      have hri : ri = (r : Int) := hr.2.1
      obtain ⟨es, hes, hL, hel⟩ : ∃ es, entsOf (it.getList.1.take r) = some es ∧ L = es.map Ent.row ∧ es.length = r := hr.2.2
      have hLl : L.length = r := by rw [hL, List.length_map, hel]
      dsimp only
      conv => cbv
      refine ⟨fun h => ?_, fun h => ?_⟩
      · have g' := cLt har (b := ar.len P) h
        have hrl : r < it.getList.1.length := by omega
        obtain ⟨w, hw⟩ : ∃ w, it.getList.1[r]? = some w := ⟨_, List.getElem?_eq_getElem hrl⟩
        obtain ⟨wa, ⟨wb1, wb2⟩, ⟨wc1, wc2⟩, hWr⟩ := row3 w
        have hwb := bulk_get hw
        have rw1 : P[ri.toNat]? = some [.c (.v (.bool wa)), .c (.sl wb1 wb2), .c (.sl wc1 wc2)] := by rw [hP, hri, Int.toNat_natCast, rowsOf_get hw, hWr]
        obtain ⟨av, K, o, hE⟩ : ∃ av K o, entR (entOf w) = [.a [.r 20 av, .c (.sl K [])], .s (.v (.bool o))] := by
          cases entOf w with
          | none => exact ⟨_, _, _, rfl⟩
          | some p => obtain ⟨a, ks⟩ := p; exact ⟨_, _, _, rfl⟩
        have hA1 : o = false → entOf w = none := fun h => by
          subst h
          cases h1 : entOf w with
          | none => rfl
          | some p => obtain ⟨a, ks⟩ := p; rw [h1] at hE; simp [entR] at hE
        have hA2 : o = true → ∃ a ks, entOf w = some (a, ks) ∧ av = u8s a ∧ K = ks.map key := fun h => by
          subst h
          cases h1 : entOf w with
          | none => rw [h1] at hE; simp [entR] at hE
          | some p => obtain ⟨a, ks⟩ := p; rw [h1] at hE; simp [entR] at hE; exact ⟨a, ks, rfl, hE.1.symm, hE.2.symm⟩
        conv => cbv
        refine ⟨_, by omega, rw1, rfl, ?_⟩
        conv => cbv
        refine callE w _ av K o _ _ _ _ hΓ hWr (by omega) hE ?_
        conv => cbv
        refine ⟨fun h => ?_, fun h => ?_⟩
        · have g5 := nbT har h
          have hn : entsOf it.getList.1 = none := by
            rw [← List.take_append_drop (r + 1) it.getList.1]
            refine entsOf_none _ _ ?_
            rw [take_succ_get hw, entsOf_append, hes, hA1 g5]
          have hr := hno (by rw [hO, hn])
          conv => cbv
          exact hr
        · have g5 := nbF har h
          obtain ⟨ea, eks, hE1, hE2, hE3⟩ := hA2 g5
          have hes2 : entsOf (it.getList.1.take (r + 1)) = some (es ++ [Ent.mk ea eks []]) := by
            rw [take_succ_get hw, entsOf_append, hes, hE1]
          have hL2 : ar.app L [[.r 20 av, .c (.sl K [])]] = (es ++ [Ent.mk ea eks []]).map Ent.row := by
            rw [appIs har, hL, List.map_append, hE2, hE3]; rfl
          have s1 : (L.length + 1) * 48 ≤ 140737488355328 ∧ ∀ y ∈ [[PS.r 20 av, .c (.sl K [])]], rlen y = 21 := ⟨by omega, by simp [rlen, PS.len]⟩
          conv => cbv
          refine ⟨fun _ => s1, ?_⟩
          refine ⟨⟨(r + 1, ar.ib .add .i64 ri 1, ar.app L [[.r 20 av, .c (.sl K [])]]), hrl, iSucc har hri (by omega), _, hes2, hL2, by rw [List.length_append, hel]; rfl⟩, ?_, ?_⟩
          · dsimp only
            conv => cbv
            simp
          · show it.getList.1.length - (r + 1) < it.getList.1.length - r
            omega
      · have g' := cNlt har (b := ar.len P) h
        have hre : r = it.getList.1.length := by omega
        rw [hre, List.take_length] at hes
        rw [hO, hes] at hk
        have hk : k [.s (.sl L []), .s (.v (.int .i64 0))] := by rw [hL]; exact hk
        conv => cbv
        exact hk
end Go.Eng
namespace Go.Eng
open Go Go.Proofs
set_option maxRecDepth 100000
set_option maxHeartbeats 4000000
set_option linter.unusedVariables false

def numB (n : Nat) : List Int := be n (blen n)
def numIt (n : Nat) : It := It.txt (numB n)
def rtx (D : List (List PS)) : List PS := [.c (.v (.bool false)), .c (.sl D []), .c (.sl [] [])]

theorem rNumber_sound : Sound Try.prog 30 fun args k => ∃ n : Nat, args = [pw n] ∧ n < M256 ∧ k [.a (numIt n).row] := by
  refine Sound.of_body tt_ok ent_ok Try.func30 rfl ?_
  rintro ar har Γ hΓ args k ⟨n, hargs, hn, hk⟩
  obtain ⟨x, hx⟩ : ∃ x, x = w4 n := ⟨_, rfl⟩
  obtain ⟨D, hD⟩ : ∃ D, D = (numB n).map b8 := ⟨_, rfl⟩
  have hk : k [.a (rtx D)] := by rw [hD]; exact hk
  have hcall : ∀ (Γ : Ctx) (d' : Nat) (k : List PR → Prop) (R : Prop), Γ = ctx Try.prog d' → k [.s (.sl D [])] → Γ.g 45 [.a [.r 4 x]] k ∨ R := fun Γ d' k R hΓ hk => call_by hΓ u256Bytes_sound ⟨n, by rw [hx], hn, by rw [hD] at hk; exact hk⟩
  unfold pw at hargs
  rw [← hx] at hargs
  subst hargs
  conv => cbv
  refine hcall _ _ _ _ hΓ ?_
  conv => cbv
  exact hk

theorem rSmall_sound : Sound Try.prog 31 fun args k => ∃ n : Nat, args = [.s (.v (.int .u64 n))] ∧ n < 18446744073709551616 ∧ k [.a (numIt n).row] := by
  refine Sound.of_body tt_ok ent_ok Try.func31 rfl ?_
  rintro ar har Γ hΓ args k ⟨n, hargs, hn, hk⟩
  obtain ⟨z, hz⟩ : ∃ z : Int, z = (n : Int) := ⟨_, rfl⟩
  obtain ⟨x, hx⟩ : ∃ x, x = w4 n := ⟨_, rfl⟩
  obtain ⟨D, hD⟩ : ∃ D, D = (numB n).map b8 := ⟨_, rfl⟩
  have hk : k [.a (rtx D)] := by rw [hD]; exact hk
  have hcall1 : ∀ (Γ : Ctx) (d' : Nat) (k : List PR → Prop) (R : Prop), Γ = ctx Try.prog d' → k [.a [.r 4 x]] → Γ.g 46 [.s (.v (.int .u64 z))] k ∨ R := fun Γ d' k R hΓ hk => call_by hΓ u256From_sound ⟨n, by rw [hz], hn, by unfold pw; rw [← hx]; exact hk⟩
  have hcall2 : ∀ (Γ : Ctx) (d' : Nat) (k : List PR → Prop) (R : Prop), Γ = ctx Try.prog d' → k [.a (rtx D)] → Γ.g 30 [.a [.r 4 x]] k ∨ R := fun Γ d' k R hΓ hk => call_by hΓ rNumber_sound ⟨n, by unfold pw; rw [hx], by unfold M256; omega, by rw [hD] at hk; exact hk⟩
  rw [← hz] at hargs
  subst hargs
  conv => cbv
  refine hcall1 _ _ _ _ hΓ ?_
  conv => cbv
  refine hcall2 _ _ _ _ hΓ ?_
  conv => cbv
  exact hk

def Au.parts (u : Au) : List It := [numIt u.ch, It.txt u.a, numIt u.no, numIt u.pa, numIt u.r, numIt u.s]
def Au.it (u : Au) : It := It.lst u.parts
def usIts (us : List Au) : List It := us.map Au.it
def wideU (us : List Au) : Bool := us.any fun u => decide (255 < u.pa)

theorem strips_parts (u : Au) : strips u.parts = u.parts := rfl
theorem strips_us : ∀ us : List Au, strips (usIts us) = usIts us
  | [] => rfl
  | u :: us => by
    show u.it.strip :: strips (usIts us) = _
    rw [strips_us us]; rfl
theorem numB_len {n : Nat} (h : n < M256) : (numB n).length ≤ 32 := by rw [numB, be_length]; exact blen_le h
theorem parts_bulk {u : Au} (h : u.ok) : bulks u.parts ≤ 200 := by
  obtain ⟨h1, h2, h3, h4, h5, h6⟩ := h
  have a1 := numB_len h1
  have a2 := numB_len (show u.no < M256 by unfold M256; omega)
  have a3 := numB_len (show u.pa < M256 by unfold M256; omega)
  have a4 := numB_len h5
  have a5 := numB_len h6
  simp only [Au.parts, bulks, numIt, It.txt, It.bulk]
  omega
theorem us_bulk : ∀ us : List Au, (∀ u ∈ us, u.ok) → bulks (usIts us) ≤ 201 * us.length
  | [], _ => Nat.le_refl _
  | u :: us, h => by
    have h1 := us_bulk us fun x hx => h x (by simp [hx])
    have h2 := parts_bulk (h u (by simp))
    show u.it.bulk + bulks (usIts us) ≤ _
    rw [Au.it, It.lst, It.bulk, List.length_nil, List.length_cons]
    omega

def authItR (us : List Au) : List PR := if wideU us = true then [.a It.zero.row, .s (.v (.int .i64 141))] else [.a (if errOf (It.lst (usIts us)) = 0 then It.lst (usIts us) else .zero).row, .s (.v (.int .i64 (if errOf (It.lst (usIts us)) = 0 then 0 else 2)))]

theorem authItem_sound : Sound Try.prog 14 fun args k => ∃ (us : List Au) (s : List (List PS)), args = [.s (.sl (us.map Au.row) s)] ∧ (∀ u ∈ us, u.ok) ∧ us.length ≤ 2 ^ 30 ∧ k (authItR us) := by
  refine Sound.of_body tt_ok ent_ok Try.func14 rfl ?_
  rintro ar har Γ hΓ args k ⟨us, s, hargs, hok, hb, hk⟩
  obtain ⟨X, hX⟩ : ∃ X, X = us.map Au.row := ⟨_, rfl⟩
  have hXl : ar.len X = (us.length : Int) := by rw [lenIs har, hX, List.length_map]
  have callX : ∀ (W s : List (List PS)) (w : List Int) (C : List (List PS)) (Γ : Ctx) (d' : Nat) (k : List PR → Prop), Γ = ctx Try.prog d' → C = W → W = w.map b8 → w.length ≤ 2 ^ 40 → k [.a (rtx W)] → Γ.g 25 [.s (.sl C s)] k := fun W s w C Γ d' k hΓ hc hw hl hk => call_by' hΓ text_sound ⟨w, s, by rw [hc, hw], hl, by rw [hw] at hk; exact hk⟩
  have callL : ∀ (J : List (List PS)) (its : List It) (Γ : Ctx) (d' : Nat) (k : List PR → Prop), Γ = ctx Try.prog d' → strips its = its → J = rowsOf its → bulks its ≤ 2 ^ 40 → k [.a [.c (.v (.bool true)), .c (.sl [] []), .c (.sl J [])]] → Γ.g 26 [.s (.sl J [])] k := fun J its Γ d' k hΓ hs hJ hl hk => call_by' hΓ list_sound ⟨its, [], by rw [hJ], hl, by rw [hs]; rw [hJ] at hk; exact hk⟩
  have callN : ∀ (n : Nat) (x : List Value) (D : List (List PS)) (Γ : Ctx) (d' : Nat) (k : List PR → Prop), Γ = ctx Try.prog d' → x = w4 n → n < M256 → D = (numB n).map b8 → k [.a (rtx D)] → Γ.g 30 [.a [.r 4 x]] k := fun n x D Γ d' k hΓ hx hn hD hk => call_by' hΓ rNumber_sound ⟨n, by unfold pw; rw [hx], hn, by rw [hD] at hk; exact hk⟩
  have callS : ∀ (n : Nat) (z : Int) (D : List (List PS)) (Γ : Ctx) (d' : Nat) (k : List PR → Prop), Γ = ctx Try.prog d' → z = n → n < 18446744073709551616 → D = (numB n).map b8 → k [.a (rtx D)] → Γ.g 31 [.s (.v (.int .u64 z))] k := fun n z D Γ d' k hΓ hz hn hD hk => call_by' hΓ rSmall_sound ⟨n, by rw [hz], hn, by rw [hD] at hk; exact hk⟩
  have hub := us_bulk us hok
  rw [← hX] at hargs
  subst hargs
  conv => cbv
  refine .inr ⟨{ q : Nat × Int × List (List PS) // q.1 ≤ us.length ∧ q.2.1 = q.1 ∧ q.2.2 = rowsOf (usIts (us.take q.1)) ∧ wideU (us.take q.1) = false },
    fun q => ⟨mk 46 [(2, .s (.ptr 0 0)), (3, .s (.lit .i64 0)), (4, .s (.own 1)), (7, .s (.p (.sl X s))), (8, pint (ar.len X)), (9, pint q.1.2.1)], [.box [.c (.bl false), .c .nil, .c .nil], .arr q.1.2.2 27 3 56 true]⟩,
    fun q => us.length - q.1.1, [.slot 4 27], _, ⟨(0, 0, []), Nat.zero_le _, rfl, rfl, rfl⟩, rfl, ?_, ?_⟩
  · conv => cbv
    simp
  · rintro ⟨⟨p, pi, Z⟩, hq⟩
    have hp : p ≤ us.length := hq.1
    have hpi : pi = (p : Int) := hq.2.1
    have hZ : Z = rowsOf (usIts (us.take p)) := hq.2.2.1
    have hw : wideU (us.take p) = false := hq.2.2.2
    dsimp only
    conv => cbv
    refine ⟨fun h => ?_, fun h => ?_⟩
    · have g := cLt har (b := ar.len X) h
      have hlt : p < us.length := by omega
      obtain ⟨u, hx⟩ : ∃ e, us[p]? = some e := ⟨_, List.getElem?_eq_getElem hlt⟩
      have huk := hok u (List.mem_of_getElem? hx)
      have hpb := parts_bulk huk
      obtain ⟨c1, hc1⟩ : ∃ x, x = w4 u.ch := ⟨_, rfl⟩
      obtain ⟨c2, hc2⟩ : ∃ x, x = u8s u.a := ⟨_, rfl⟩
      obtain ⟨c3, hc3⟩ : ∃ x : Int, x = u.no := ⟨_, rfl⟩
      obtain ⟨c4, hc4⟩ : ∃ x : Int, x = u.pa := ⟨_, rfl⟩
      obtain ⟨c5, hc5⟩ : ∃ x, x = w4 u.r := ⟨_, rfl⟩
      obtain ⟨c6, hc6⟩ : ∃ x, x = w4 u.s := ⟨_, rfl⟩
      obtain ⟨D1, hD1⟩ : ∃ x, x = (numB u.ch).map b8 := ⟨_, rfl⟩
      obtain ⟨D2, hD2⟩ : ∃ x, x = u.a.map b8 := ⟨_, rfl⟩
      obtain ⟨D3, hD3⟩ : ∃ x, x = (numB u.no).map b8 := ⟨_, rfl⟩
      obtain ⟨D4, hD4⟩ : ∃ x, x = (numB u.pa).map b8 := ⟨_, rfl⟩
      obtain ⟨D5, hD5⟩ : ∃ x, x = (numB u.r).map b8 := ⟨_, rfl⟩
      obtain ⟨D6, hD6⟩ : ∃ x, x = (numB u.s).map b8 := ⟨_, rfl⟩
      have rx : X[pi.toNat]? = some [.r 4 c1, .r 20 c2, .c (.v (.int .u64 c3)), .c (.v (.int .u64 c4)), .r 4 c5, .r 4 c6] := by rw [hX, hpi]; simp [hx, Au.row, hc1, hc2, hc3, hc4, hc5, hc6]
      have hcc : ar.cells c2 = D2 := by rw [hc2, hD2, bytes_cells ar har]
      obtain ⟨u1, u2, u3, u4, u5, u6⟩ := huk
      have wide1 : c4 > 255 → wideU us = true := fun h => by
        rw [wideU, List.any_eq_true]
        exact ⟨u, List.mem_of_getElem? hx, by rw [decide_eq_true_eq]; omega⟩
      have wide2 : ¬ c4 > 255 → wideU (us.take (p + 1)) = false := fun h => by
        rw [wideU, take_succ_get hx, List.any_append, ← wideU, hw, Bool.false_or, List.any_cons, List.any_nil, Bool.or_false, decide_eq_false_iff_not]; omega
      obtain ⟨J, hJ⟩ : ∃ J, J = rowsOf u.parts := ⟨_, rfl⟩
      have hJ2 : J = [rtx D1, rtx D2, rtx D3, rtx D4, rtx D5, rtx D6] := by rw [hJ, hD1, hD2, hD3, hD4, hD5, hD6]; rfl
      have callJ := fun (Γ : Ctx) (d' : Nat) (k : List PR → Prop) (h1 : Γ = ctx Try.prog d') (h2) => callL J u.parts Γ d' k h1 (strips_parts u) hJ (by omega) h2
      have s1 : (Z.length + 1) * 56 ≤ 140737488355328 ∧ ∀ y ∈ [[PS.c (.v (.bool true)), .c (.sl [] []), .c (.sl J [])]], rlen y = 3 := ⟨by rw [hZ, rowsOf_length, usIts, List.length_map, List.length_take]; omega, by simp [rlen, PS.len]⟩
      have hZ2 : ar.app Z [[PS.c (.v (.bool true)), .c (.sl [] []), .c (.sl J [])]] = rowsOf (usIts (us.take (p + 1))) := by
        rw [appIs har, hZ, take_succ_get hx, usIts, usIts, List.map_append, rowsOf_append, hJ]; rfl
      rw [hJ2] at callJ s1 hZ2
      conv => cbv
      refine ⟨_, by omega, rx, rfl, ?_⟩
      conv => cbv
      refine ⟨fun h => ?_, fun h => ?_⟩
      · have g2 := cGt har (a := c4) (b := 255) h
        rw [authItR, if_pos (wide1 g2)] at hk
        conv => cbv
        exact hk
      · have g2 := cNgt har (a := c4) (b := 255) h
        have hw2 := wide2 (by omega)
        conv => cbv
        refine ⟨by rw [har]; kernel_rfl, ?_⟩
        refine callN u.ch c1 D1 _ _ _ hΓ hc1 u1 hD1 ?_
        conv => cbv
        refine callX D2 [] u.a _ _ _ _ hΓ hcc hD2 (by omega) ?_
        conv => cbv
        refine callS u.no c3 D3 _ _ _ hΓ hc3 u3 hD3 ?_
        conv => cbv
        refine callS u.pa c4 D4 _ _ _ hΓ hc4 u4 hD4 ?_
        conv => cbv
        refine callN u.r c5 D5 _ _ _ hΓ hc5 u5 hD5 ?_
        conv => cbv
        refine callN u.s c6 D6 _ _ _ hΓ hc6 u6 hD6 ?_
        conv => cbv
        refine callJ _ _ _ hΓ ?_
        conv => cbv
        refine ⟨fun _ => s1, ?_⟩
        refine ⟨⟨(p + 1, ar.ib .add .i64 pi 1, ar.app Z [[PS.c (.v (.bool true)), .c (.sl [] []), .c (.sl [rtx D1, rtx D2, rtx D3, rtx D4, rtx D5, rtx D6] [])]]), hlt, iSucc har hpi (by omega), hZ2, hw2⟩, ?_, ?_⟩
        · dsimp only
          conv => cbv
          simp
        · show us.length - (p + 1) < us.length - p
          omega
    · have g := cNlt har (b := ar.len X) h
      have hpe : p = us.length := by omega
      rw [hpe, List.take_length] at hZ hw
      obtain ⟨F, hF⟩ : ∃ F, F = (if errOf (It.lst (usIts us)) = 0 then It.lst (usIts us) else .zero).row := ⟨_, rfl⟩
      obtain ⟨fe, hfe⟩ : ∃ fe : Int, fe = (if errOf (It.lst (usIts us)) = 0 then 0 else 2) := ⟨_, rfl⟩
      have callF : ∀ (Γ : Ctx) (d' : Nat) (k : List PR → Prop) (R : Prop), Γ = ctx Try.prog d' → k [.a F, .s (.v (.int .i64 fe))] → Γ.g 27 [.a [.c (.v (.bool true)), .c (.sl [] []), .c (.sl Z [])]] k ∨ R := fun Γ d' k R hΓ hk => call_by hΓ fitting_sound ⟨It.lst (usIts us), by rw [hZ]; rfl, by simp only [It.lst, It.bulk, List.length_nil]; omega, by rw [hF, hfe] at hk; exact hk⟩
      rw [authItR, hw, if_neg (by decide), ← hF, ← hfe] at hk
      obtain ⟨a, ⟨b1, b2⟩, ⟨c1, c2⟩, hA2⟩ := row3 (if errOf (It.lst (usIts us)) = 0 then It.lst (usIts us) else .zero)
      rw [← hF] at hA2
      subst hA2
      have callL' : ∀ (Γ : Ctx) (d' : Nat) (k : List PR → Prop) (R : Prop), Γ = ctx Try.prog d' → k [.a [.c (.v (.bool true)), .c (.sl [] []), .c (.sl Z [])]] → Γ.g 26 [.s (.sl Z [])] k ∨ R := fun Γ d' k R h1 h2 => .inl (callL Z (usIts us) Γ d' k h1 (strips_us us) hZ (by omega) h2)
      conv => cbv
      refine callL' _ _ _ _ hΓ ?_
      conv => cbv
      refine callF _ _ _ _ hΓ ?_
      conv => cbv
      exact hk
end Go.Eng
namespace Go.Eng
open Go Go.Proofs
set_option maxRecDepth 100000
set_option maxHeartbeats 4000000
set_option linter.unusedVariables false

/-- What bytes are worth, the highest first. -/
def bev (bs : List Int) : Nat := bs.foldl (fun n b => n * 256 + b.toNat) 0
theorem bev_snoc (l : List Int) (b : Int) : bev (l ++ [b]) = bev l * 256 + b.toNat := by
  simp only [bev, List.foldl_append, List.foldl_cons, List.foldl_nil]
theorem bev_aux : ∀ (l : List Int) (n : Nat), bytesOk l → l.foldl (fun n b => n * 256 + b.toNat) n + 1 ≤ (n + 1) * 256 ^ l.length
  | [], n, _ => by simp
  | b :: l, n, h => by
    have h2 := h b (by simp)
    have := bev_aux l (n * 256 + b.toNat) fun x hx => h x (by simp [hx])
    rw [List.foldl_cons, List.length_cons, Nat.pow_succ, Nat.mul_comm (256 ^ l.length), ← Nat.mul_assoc]
    refine Nat.le_trans this (Nat.mul_le_mul_right _ ?_)
    omega
theorem bev_lt {l : List Int} (h : bytesOk l) : bev l < 256 ^ l.length := by
  have := bev_aux l 0 h
  rw [Nat.zero_add, Nat.one_mul] at this
  exact this

theorem shl_bit (b s q : Nat) : (b * 2 ^ s).testBit q = (decide (s ≤ q) && b.testBit (q - s)) := by
  rw [← Nat.shiftLeft_eq, Nat.testBit_shiftLeft]

theorem w4_or (n p b : Nat) (hb : b < 256) (_hp : p < 32) : (w4 n).set (p / 8) (.int .u64 (((n / 2 ^ (64 * (p / 8)) % 18446744073709551616) ||| b * 2 ^ (8 * (p % 8)) : Nat) : Int)) = w4 (n ||| b * 2 ^ (8 * p)) := by
  have hb8 : ∀ q, 8 ≤ q → b.testBit q = false := fun q hq => Nat.testBit_lt_two_pow (Nat.lt_of_lt_of_le hb (Nat.pow_le_pow_right (n := 2) (by omega) hq))
  refine List.ext_getElem? fun j => ?_
  have hlen : (w4 n).length = 4 := rfl
  rcases Nat.lt_or_ge j 4 with hj | hj
  · rw [w4_get _ hj, List.getElem?_set, hlen]
    by_cases e : p / 8 = j
    · rw [if_pos e, if_pos (by omega)]
      subst e
      congr 4
      refine Nat.eq_of_testBit_eq fun q => ?_
      rcases Nat.lt_or_ge q 64 with hq | hq
      · rw [Nat.testBit_or, word_bit _ _ _ hq, word_bit _ _ _ hq, Nat.testBit_or, shl_bit, shl_bit]
        congr 1
        by_cases h : 8 * (p % 8) ≤ q
        · rw [decide_eq_true h, decide_eq_true (by omega)]; congr 2; omega
        · rw [decide_eq_false h, decide_eq_false (by omega)]; rfl
      · rw [Nat.testBit_lt_two_pow (x := (n ||| b * 2 ^ (8 * p)) / 2 ^ (64 * (p / 8)) % 18446744073709551616) (Nat.lt_of_lt_of_le (Nat.mod_lt _ (by omega)) (Nat.pow_le_pow_right (n := 2) (by omega) hq))]
        rw [Nat.testBit_or, shl_bit, hb8 _ (by omega), Bool.and_false, Bool.or_false]
        exact Nat.testBit_lt_two_pow (Nat.lt_of_lt_of_le (Nat.mod_lt _ (by omega)) (Nat.pow_le_pow_right (n := 2) (by omega) hq))
    · rw [if_neg e, w4_get _ hj]
      refine congrArg (fun z : Nat => some (Value.int .u64 (z : Int))) ?_
      refine Nat.eq_of_testBit_eq fun q => ?_
      rcases Nat.lt_or_ge q 64 with hq | hq
      · rw [word_bit _ _ _ hq, word_bit _ _ _ hq, Nat.testBit_or, shl_bit]
        by_cases h : 8 * p ≤ 64 * j + q
        · rw [hb8 _ (by omega), Bool.and_false, Bool.or_false]
        · rw [decide_eq_false h, Bool.false_and, Bool.or_false]
      · rw [Nat.testBit_lt_two_pow (x := (n ||| b * 2 ^ (8 * p)) / 2 ^ (64 * j) % 18446744073709551616) (Nat.lt_of_lt_of_le (Nat.mod_lt _ (by omega)) (Nat.pow_le_pow_right (n := 2) (by omega) hq))]
        exact Nat.testBit_lt_two_pow (Nat.lt_of_lt_of_le (Nat.mod_lt _ (by omega)) (Nat.pow_le_pow_right (n := 2) (by omega) hq))
  · rw [List.getElem?_eq_none (by simp [hlen]; omega), List.getElem?_eq_none (by show (w4 _).length ≤ j; exact hj)]

theorem or_step (v b p : Nat) (hb : b < 256) : (v * 256 ^ (p + 1)) ||| b * 2 ^ (8 * p) = (v * 256 + b) * 256 ^ p := by
  have e : (256 : Nat) ^ p = 2 ^ (8 * p) := by rw [Nat.pow_mul]
  have h1 : b * 2 ^ (8 * p) < 2 ^ (8 * p + 8) := by
    rw [Nat.pow_add]
    exact Nat.mul_comm (2 ^ (8 * p)) (2 ^ 8) ▸ Nat.mul_lt_mul_of_pos_right hb (Nat.two_pow_pos _)
  have h2 := or_add (b := v) h1
  rw [Nat.or_comm, show v * 256 ^ (p + 1) = v * 2 ^ (8 * p + 8) by rw [Nat.pow_succ, e, Nat.pow_add], h2, e, Nat.pow_add, Nat.add_mul, Nat.mul_assoc v 256, Nat.mul_comm 256, Nat.add_comm]

theorem u256Get_sound : Sound Try.prog 83 fun args k => ∃ (d : List Int) (sd : List (List PS)), args = [.s (.sl (d.map b8) sd)] ∧ bytesOk d ∧ d.length ≤ 32 ∧ k [pw (bev d), .s (.v (.int .i64 0))] := by
  refine Sound.of_body tt_ok ent_ok Try.func83 rfl ?_
  rintro ar har Γ hΓ args k ⟨d, sd, hargs, hok, hl, hk⟩
  obtain ⟨D, hD⟩ : ∃ D, D = d.map b8 := ⟨_, rfl⟩
  obtain ⟨x, hx⟩ : ∃ x, x = w4 (bev d) := ⟨_, rfl⟩
  have hDl : ar.len D = (d.length : Int) := by rw [lenIs har, hD, List.length_map]
  have hn32 : ar.cb .gtr (ar.len D) 32 = false := dNgt har (by omega)
  unfold pw at hk
  rw [← hx] at hk
  rw [← hD] at hargs
  subst hargs
  conv => cbv
  refine onF hn32 ?_
  conv => cbv
  refine .inr ⟨{ q : Nat × Int × List Value // q.1 ≤ d.length ∧ q.2.1 = q.1 ∧ q.2.2 = w4 (bev (d.take q.1) * 256 ^ (d.length - q.1)) },
    fun q => ⟨mk 38 [(0, .s (.p (.sl D sd))), (2, .s (.ptr 0 0)), (3, .s (.lit .i64 0)), (4, .s (.ptr 1 0)), (12, pint (ar.len D)), (13, pint q.1.2.1)], [.box [.r 4 (w4 0)], .box [.r 4 q.1.2.2]]⟩,
    fun q => d.length - q.1.1, [], _, ⟨(0, 0, w4 0), Nat.zero_le _, rfl, by simp [bev]⟩, rfl, ?_, ?_⟩
  · conv => cbv
    simp
  · rintro ⟨⟨p, pi, Z⟩, hq⟩
    have hp : p ≤ d.length := hq.1
    have hpi : pi = (p : Int) := hq.2.1
    have hZ : Z = w4 (bev (d.take p) * 256 ^ (d.length - p)) := hq.2.2
    dsimp only
    conv => cbv
    refine ⟨fun h => ?_, fun h => ?_⟩
    · have g := cLt har (b := ar.len D) h
      have hlt : p < d.length := by omega
      obtain ⟨b, hb⟩ : ∃ b, d[p]? = some b := ⟨_, List.getElem?_eq_getElem hlt⟩
      have hbr := hok b (List.mem_of_getElem? hb)
      obtain ⟨bn, hbn⟩ : ∃ bn : Nat, b = (bn : Int) := ⟨b.toNat, by omega⟩
      obtain ⟨kk, hkk⟩ : ∃ kk, kk = d.length - 1 - p := ⟨_, rfl⟩
      have e0 : ar.ib .sub .i64 (ar.len D) 1 = ((d.length - 1 : Nat) : Int) := by rw [hDl, iSub har (by omega)]; omega
      have e1 : ar.ib .sub .i64 (ar.ib .sub .i64 (ar.len D) 1) pi = (kk : Int) := by rw [e0, iSub har (by omega)]; omega
      have e2 : ar.ib .quo .i64 (ar.ib .sub .i64 (ar.ib .sub .i64 (ar.len D) 1) pi) 8 = ((kk / 8 : Nat) : Int) := by rw [e1]; exact iQuo har (b := 8) (by omega)
      have e3 : ar.ib .rem .i64 (ar.ib .sub .i64 (ar.ib .sub .i64 (ar.len D) 1) pi) 8 = ((kk % 8 : Nat) : Int) := by rw [e1]; exact iRem har (b := 8)
      have e4 : ar.ib .mul .i64 8 (ar.ib .rem .i64 (ar.ib .sub .i64 (ar.ib .sub .i64 (ar.len D) 1) pi) 8) = ((8 * (kk % 8) : Nat) : Int) := by rw [e3, iMul har (by omega)]; omega
      have n2 : ar.nat (ar.ib .quo .i64 (ar.ib .sub .i64 (ar.ib .sub .i64 (ar.len D) 1) pi) 8) = kk / 8 := natOf har e2
      have rb : D[pi.toNat]? = some [.c (.v (.int .u8 b))] := by rw [hD, hpi, Int.toNat_natCast, List.getElem?_map, hb]; rfl
      obtain ⟨v, hv⟩ : ∃ v : Int, v = ((bev (d.take p) * 256 ^ (d.length - p) / 2 ^ (64 * (kk / 8)) % 18446744073709551616 : Nat) : Int) := ⟨_, rfl⟩
      have rx : Z[ar.nat (ar.ib .quo .i64 (ar.ib .sub .i64 (ar.ib .sub .i64 (ar.len D) 1) pi) 8)]? = some (.int .u64 v) := by rw [n2, hZ, hv]; exact w4_get _ (by omega)
      have b2 : 0 ≤ ar.ib .quo .i64 (ar.ib .sub .i64 (ar.ib .sub .i64 (ar.len D) 1) pi) 8 ∧ ar.ib .quo .i64 (ar.ib .sub .i64 (ar.ib .sub .i64 (ar.len D) 1) pi) 8 < 4 := by rw [e2]; omega
      have b4 : 0 ≤ ar.ib .mul .i64 8 (ar.ib .rem .i64 (ar.ib .sub .i64 (ar.ib .sub .i64 (ar.len D) 1) pi) 8) := by rw [e4]; omega
      have b5 : ar.nat (ar.ib .quo .i64 (ar.ib .sub .i64 (ar.ib .sub .i64 (ar.len D) 1) pi) 8) < 4 := by rw [n2]; omega
      have tk : d.take (p + 1) = d.take p ++ [b] := take_succ_get hb
      have c1 : ar.cv .u64 b = (bn : Int) := by rw [cvU64 har (by omega), hbn]
      have c2 : ar.ib .shl .u64 (ar.cv .u64 b) (ar.ib .mul .i64 8 (ar.ib .rem .i64 (ar.ib .sub .i64 (ar.ib .sub .i64 (ar.len D) 1) pi) 8)) = ((bn * 2 ^ (8 * (kk % 8)) : Nat) : Int) := by
        rw [c1, e4, iIs har, ib_shl64 (by omega)]
        congr 1
        refine Nat.mod_eq_of_lt ?_
        calc bn * 2 ^ (8 * (kk % 8)) ≤ 255 * 2 ^ 56 := Nat.mul_le_mul (by omega) (Nat.pow_le_pow_right (n := 2) (by omega) (by omega))
          _ < 18446744073709551616 := by decide
      have c3 : ar.ib .or .u64 v (ar.ib .shl .u64 (ar.cv .u64 b) (ar.ib .mul .i64 8 (ar.ib .rem .i64 (ar.ib .sub .i64 (ar.ib .sub .i64 (ar.len D) 1) pi) 8))) = ((bev (d.take p) * 256 ^ (d.length - p) / 2 ^ (64 * (kk / 8)) % 18446744073709551616 ||| bn * 2 ^ (8 * (kk % 8)) : Nat) : Int) := by
        rw [c2, hv, iIs har]
        refine ib_or64 (Nat.mod_lt _ (by decide)) ?_
        calc bn * 2 ^ (8 * (kk % 8)) ≤ 255 * 2 ^ 56 := Nat.mul_le_mul (by omega) (Nat.pow_le_pow_right (n := 2) (by omega) (by omega))
          _ < 18446744073709551616 := by decide
      have hset : ar.set Z (ar.nat (ar.ib .quo .i64 (ar.ib .sub .i64 (ar.ib .sub .i64 (ar.len D) 1) pi) 8)) (.int .u64 (ar.ib .or .u64 v (ar.ib .shl .u64 (ar.cv .u64 b) (ar.ib .mul .i64 8 (ar.ib .rem .i64 (ar.ib .sub .i64 (ar.ib .sub .i64 (ar.len D) 1) pi) 8))))) = w4 (bev (d.take (p + 1)) * 256 ^ (d.length - (p + 1))) := by
        rw [setIs har, n2, c3, hZ, w4_or _ kk bn (by omega) (by omega), tk, bev_snoc, hbn, Int.toNat_natCast, show d.length - p = kk + 1 by omega, show d.length - (p + 1) = kk by omega, or_step _ _ _ (by omega)]
      conv => cbv
      refine ⟨by rw [har]; kernel_rfl, ?_⟩
      refine ⟨fun _ => b2, _, rx, ?_⟩
      conv => cbv
      refine ⟨_, by omega, rb, rfl, ?_⟩
      conv => cbv
      refine ⟨fun _ => b4, fun _ => b2, fun _ => b5, ?_⟩
      refine ⟨⟨(p + 1, ar.ib .add .i64 pi 1, ar.set Z (ar.nat (ar.ib .quo .i64 (ar.ib .sub .i64 (ar.ib .sub .i64 (ar.len D) 1) pi) 8)) (.int .u64 (ar.ib .or .u64 v (ar.ib .shl .u64 (ar.cv .u64 b) (ar.ib .mul .i64 8 (ar.ib .rem .i64 (ar.ib .sub .i64 (ar.ib .sub .i64 (ar.len D) 1) pi) 8)))))), hlt, iSucc har hpi (by omega), hset⟩, ?_, ?_⟩
      · dsimp only
        conv => cbv
        simp
      · show d.length - (p + 1) < d.length - p
        omega
    · have g := cNlt har (b := ar.len D) h
      have hpe : p = d.length := by omega
      have hZ2 : Z = x := by rw [hZ, hx, hpe, List.take_length, Nat.sub_self, Nat.pow_zero, Nat.mul_one]
      rw [← hZ2] at hk
      conv => cbv
      exact hk

def strictR : List Int → Nat × Int
  | [] => (0, 0)
  | b :: l => if b = 0 then (0, 13) else (bev (b :: l), 0)

theorem u256Strict_sound : Sound Try.prog 80 fun args k => ∃ (d : List Int) (sd : List (List PS)), args = [.s (.sl (d.map b8) sd)] ∧ bytesOk d ∧ d.length ≤ 32 ∧ k [pw (strictR d).1, .s (.v (.int .i64 (strictR d).2))] := by
  refine Sound.of_body tt_ok ent_ok Try.func80 rfl ?_
  rintro ar har Γ hΓ args k ⟨d, sd, hargs, hok, hl, hk⟩
  obtain ⟨D, hD⟩ : ∃ D, D = d.map b8 := ⟨_, rfl⟩
  obtain ⟨x, hx⟩ : ∃ x, x = w4 (bev d) := ⟨_, rfl⟩
  have hDl : ar.len D = (d.length : Int) := by rw [lenIs har, hD, List.length_map]
  have callG : ∀ (Γ : Ctx) (d' : Nat) (k : List PR → Prop) (R : Prop), Γ = ctx Try.prog d' → k [.a [.r 4 x], .s (.v (.int .i64 0))] → Γ.g 83 [.s (.sl D sd)] k ∨ R := fun Γ d' k R hΓ hk => call_by hΓ u256Get_sound ⟨d, sd, by rw [hD], hok, hl, by unfold pw; rw [hx] at hk; exact hk⟩
  unfold pw at hk
  have t0 : ar.cb .eql 0 0 = true := tEq har 0
  cases d with
  | nil =>
    have hf : ar.cb .gtr (ar.len D) 0 = false := dNgt har (by rw [hDl]; exact Int.le_refl 0)
    have hk : k [.a [.r 4 x], .s (.v (.int .i64 0))] := by rw [hx]; exact hk
    rw [← hD] at hargs
    clear hx hD
    subst hargs
    conv => cbv
    refine callG _ _ _ _ hΓ ?_
    conv => cbv
    refine onT t0 ?_
    conv => cbv
    refine onF hf ?_
    conv => cbv
    exact hk
  | cons b l =>
    have hf : ar.cb .gtr (ar.len D) 0 = true := dGt har (by rw [hDl, List.length_cons]; omega)
    have rb : D[(0 : Int).toNat]? = some [.c (.v (.int .u8 b))] := by rw [hD]; rfl
    have hk1 : b = 0 → k [.a [.r 4 (w4 0)], .s (.v (.int .i64 13))] := fun h => by
      simp only [strictR, if_pos h] at hk; exact hk
    have hk2 : b ≠ 0 → k [.a [.r 4 x], .s (.v (.int .i64 0))] := fun h => by
      simp only [strictR, if_neg h] at hk; rw [hx]; exact hk
    have hb0 : (0 : Int) ≤ 0 := Int.le_refl 0
    rw [← hD] at hargs
    clear hx hD hk hok hl hDl
    subst hargs
    conv => cbv
    refine callG _ _ _ _ hΓ ?_
    conv => cbv
    refine onT t0 ?_
    conv => cbv
    refine onT hf ?_
    conv => cbv
    refine ⟨_, hb0, rb, rfl, ?_⟩
    conv => cbv
    refine ⟨fun h => ?_, fun h => ?_⟩
    · have g := hk1 (cEq har (a := b) (b := 0) h)
      conv => cbv
      exact g
    · have g := hk2 (cNeq har (a := b) (b := 0) h)
      conv => cbv
      exact g
end Go.Eng
namespace Go.Eng
open Go Go.Proofs
set_option maxRecDepth 100000
set_option maxHeartbeats 4000000
set_option linter.unusedVariables false

mutual
/-- All bytes are in their range. -/
def It.byt : It → Prop
  | .mk _ d _ its _ => bytesOk d ∧ byts its
def byts : List It → Prop
  | [] => True
  | x :: xs => x.byt ∧ byts xs
end
theorem byts_mem {x : It} : ∀ {its : List It}, byts its → x ∈ its → x.byt
  | y :: ys, h, hx => by
    rcases List.mem_cons.1 hx with rfl | hx
    · exact h.1
    · exact byts_mem h.2 hx
theorem byts_of : ∀ {its : List It}, (∀ x ∈ its, x.byt) → byts its
  | [], _ => trivial
  | y :: ys, h => ⟨h y (by simp), byts_of fun x hx => h x (by simp [hx])⟩
theorem byt_strip : ∀ x : It, x.byt → x.strip.byt
  | .mk l d sd its ss, h => by
    have : ∀ its : List It, (∀ x ∈ its, x.byt → x.strip.byt) → byts its → byts (strips its) := by
      intro its
      induction its with
      | nil => intro _ _; trivial
      | cons x xs ih => intro h hb; exact ⟨h x (by simp) hb.1, ih (fun y hy => h y (by simp [hy])) hb.2⟩
    exact ⟨h.1, this its (fun x hx => byt_strip x) h.2⟩
termination_by x => x.bulk
decreasing_by
  have := bulk_mem hx
  simp only [It.bulk]; omega
theorem byts_strips {its : List It} (h : byts its) : byts (strips its) := by
  induction its with
  | nil => trivial
  | cons x xs ih => exact ⟨byt_strip x h.1, ih h.2⟩
theorem getList_byt {it : It} (h : it.byt) : byts it.getList.1 := by
  unfold It.getList
  split
  · cases it; exact byts_strips h.2
  · trivial

def numR (m : Nat) (e : Int) (d : List Int) : Nat × Int := if e = 0 then (if m < d.length then (0, 77) else if (strictR d).2 = 0 then ((strictR d).1, 0) else (0, 76)) else (0, e)
def It.num (m : Nat) (it : It) : Nat × Int := numR m (it.ke false) it.d

theorem strict_lt {d : List Int} (h : bytesOk d) : (strictR d).1 < 256 ^ d.length := by
  cases d with
  | nil => decide
  | cons b l =>
    by_cases h0 : b = 0
    · simp only [strictR, if_pos h0]; exact Nat.pow_pos (by omega)
    · simp only [strictR, if_neg h0]; exact bev_lt h
theorem num_lt {m : Nat} {it : It} (h : it.byt) : (it.num m).1 < 256 ^ m := by
  have hp : 0 < 256 ^ m := Nat.pow_pos (by omega)
  obtain ⟨l, d, sd, its, ss⟩ := it
  have hs := strict_lt h.1
  show (numR m _ d).1 < _
  unfold numR
  split
  · split
    · exact hp
    · split
      · exact Nat.lt_of_lt_of_le hs (Nat.pow_le_pow_right (by omega) (by omega))
      · exact hp
  · exact hp

theorem rnumber_sound : Sound Try.prog 77 fun args k => ∃ (it : It) (m : Nat), args = [.a it.row, .s (.v (.int .i64 (m : Int)))] ∧ m ≤ 32 ∧ it.byt ∧ it.bulk ≤ 2 ^ 40 ∧ k [pw (it.num m).1, .s (.v (.int .i64 (it.num m).2))] := by
  refine Sound.of_body tt_ok ent_ok Try.func77 rfl ?_
  rintro ar har Γ hΓ args k ⟨⟨l, d, sd, its, ss⟩, n, hargs, hm32, hby, hb, hk⟩
  obtain ⟨e, he⟩ : ∃ e, e = (It.mk l d sd its ss).ke false := ⟨_, rfl⟩
  obtain ⟨D, hD⟩ : ∃ D, D = d.map b8 := ⟨_, rfl⟩
  obtain ⟨I, hI⟩ : ∃ I, I = rowsOf its := ⟨_, rfl⟩
  obtain ⟨m, hm⟩ : ∃ m : Int, m = (n : Int) := ⟨_, rfl⟩
  obtain ⟨x, hx⟩ : ∃ x, x = w4 (strictR d).1 := ⟨_, rfl⟩
  obtain ⟨e2, he2⟩ : ∃ e, e = (strictR d).2 := ⟨_, rfl⟩
  have hrow : (It.mk l d sd its ss).row = [.c (.v (.bool l)), .c (.sl D sd), .c (.sl I ss)] := by rw [hD, hI]; rfl
  have hd : d.length ≤ 2 ^ 40 := by simp only [It.bulk] at hb; omega
  have hDl : ar.len D = (d.length : Int) := by rw [lenIs har, hD, List.length_map]
  have hk : k [pw (numR n e d).1, .s (.v (.int .i64 (numR n e d).2))] := by rw [he]; exact hk
  unfold pw at hk
  have hk1 : e ≠ 0 → k [.a [.r 4 (w4 0)], .s (.v (.int .i64 e))] := fun h => by simp only [numR, if_neg h] at hk; exact hk
  have hk2 : e = 0 → ar.len D > m → k [.a [.r 4 (w4 0)], .s (.v (.int .i64 77))] := fun h h2 => by
    have h3 : n < d.length := by omega
    simp only [numR, if_pos h, if_pos h3] at hk; exact hk
  have hk3 : e = 0 → ¬ ar.len D > m → e2 ≠ 0 → k [.a [.r 4 (w4 0)], .s (.v (.int .i64 76))] := fun h h2 h4 => by
    have h3 : ¬ n < d.length := by omega
    rw [he2] at h4
    simp only [numR, if_pos h, if_neg h3, if_neg h4] at hk; exact hk
  have hk4 : e = 0 → ¬ ar.len D > m → e2 = 0 → k [.a [.r 4 x], .s (.v (.int .i64 0))] := fun h h2 h4 => by
    have h3 : ¬ n < d.length := by omega
    rw [he2] at h4
    simp only [numR, if_pos h, if_neg h3, if_pos h4] at hk; rw [hx]; exact hk
  have callK : ∀ (Γ : Ctx) (d' : Nat) (k : List PR → Prop) (R : Prop), Γ = ctx Try.prog d' → k [.s (.v (.int .i64 e))] → Γ.g 49 [.a [.c (.v (.bool l)), .c (.sl D sd), .c (.sl I ss)], .s (.v (.bool false))] k ∨ R := fun Γ d' k R hΓ hk => call_by hΓ kind_sound ⟨.mk l d sd its ss, false, by rw [hrow], by rw [he] at hk; exact hk⟩
  have callS : ∀ (Γ : Ctx) (d' : Nat) (k : List PR → Prop) (R : Prop), Γ = ctx Try.prog d' → ¬ ar.len D > m → k [.a [.r 4 x], .s (.v (.int .i64 e2))] → Γ.g 80 [.s (.sl D sd)] k ∨ R := fun Γ d' k R hΓ hl hk => call_by hΓ u256Strict_sound ⟨d, sd, by rw [hD], hby.1, by omega, by unfold pw; rw [← hx, ← he2]; exact hk⟩
  rw [hrow, ← hm] at hargs
  clear hk he hD hI hrow hb hd hm hDl hx he2 hby
  subst hargs
  conv => cbv
  refine callK _ _ _ _ hΓ ?_
  conv => cbv
  refine ⟨fun h1 => ?_, fun h1 => ?_⟩
  · have h2 := hk1 (cNe har (a := e) (b := 0) h1)
    conv => cbv
    exact h2
  · have h2 := cNne har (a := e) (b := 0) h1
    conv => cbv
    refine ⟨fun h3 => ?_, fun h3 => ?_⟩
    · have h4 := hk2 h2 (cGt har (a := ar.len D) (b := m) h3)
      conv => cbv
      exact h4
    · have h4 : ¬ ar.len D > m := Int.not_lt.2 (cNgt har (a := ar.len D) (b := m) h3)
      conv => cbv
      refine callS _ _ _ _ hΓ h4 ?_
      conv => cbv
      refine ⟨fun h5 => ?_, fun h5 => ?_⟩
      · have h6 := hk3 h2 h4 (cNe har (a := e2) (b := 0) h5)
        conv => cbv
        exact h6
      · have h6 := hk4 h2 h4 (cNne har (a := e2) (b := 0) h5)
        conv => cbv
        exact h6

theorem getNumber_sound : Sound Try.prog 66 fun args k => ∃ (it : It), args = [.a it.row] ∧ it.byt ∧ it.bulk ≤ 2 ^ 40 ∧ k [pw (it.num 32).1, .s (.v (.int .i64 (it.num 32).2))] := by
  refine Sound.of_body tt_ok ent_ok Try.func66 rfl ?_
  rintro ar har Γ hΓ args k ⟨it, hargs, hby, hb, hk⟩
  obtain ⟨x, hx⟩ : ∃ x, x = w4 (it.num 32).1 := ⟨_, rfl⟩
  obtain ⟨e, he⟩ : ∃ x, x = (it.num 32).2 := ⟨_, rfl⟩
  obtain ⟨a, ⟨b1, b2⟩, ⟨c1, c2⟩, hA⟩ := row3 it
  rw [hA] at hargs
  have hcall : ∀ (Γ : Ctx) (d' : Nat) (k : List PR → Prop) (R : Prop), Γ = ctx Try.prog d' → k [.a [.r 4 x], .s (.v (.int .i64 e))] → Γ.g 77 [.a [.c (.v (.bool a)), .c (.sl b1 b2), .c (.sl c1 c2)], .s (.v (.int .i64 32))] k ∨ R := fun Γ d' k R hΓ hk => call_by hΓ rnumber_sound ⟨it, 32, by rw [hA]; rfl, Nat.le_refl _, hby, hb, by unfold pw; rw [← hx, ← he]; exact hk⟩
  unfold pw at hk
  rw [← hx, ← he] at hk
  subst hargs
  conv => cbv
  refine hcall _ _ _ _ hΓ ?_
  conv => cbv
  exact hk

theorem getSmall_sound : Sound Try.prog 69 fun args k => ∃ (it : It), args = [.a it.row] ∧ it.byt ∧ it.bulk ≤ 2 ^ 40 ∧ k [.s (.v (.int .u64 ((it.num 8).1 : Int))), .s (.v (.int .i64 (it.num 8).2))] := by
  refine Sound.of_body tt_ok ent_ok Try.func69 rfl ?_
  rintro ar har Γ hΓ args k ⟨it, hargs, hby, hb, hk⟩
  obtain ⟨z, hz⟩ : ∃ z : Int, z = ((it.num 8).1 : Nat) := ⟨_, rfl⟩
  have hlt : (it.num 8).1 < 18446744073709551616 := num_lt hby
  have hx : w4 (it.num 8).1 = [.int .u64 z, .int .u64 0, .int .u64 0, .int .u64 0] := by
    have := w4_v4 (a := (it.num 8).1) (b := 0) (c := 0) (d := 0) hlt (by omega) (by omega) (by omega)
    rw [hz]
    simpa [v4] using this
  obtain ⟨e, he⟩ : ∃ x, x = (it.num 8).2 := ⟨_, rfl⟩
  obtain ⟨a, ⟨b1, b2⟩, ⟨c1, c2⟩, hA⟩ := row3 it
  rw [hA] at hargs
  have hcall : ∀ (Γ : Ctx) (d' : Nat) (k : List PR → Prop) (R : Prop), Γ = ctx Try.prog d' → k [.a [.r 4 [.int .u64 z, .int .u64 0, .int .u64 0, .int .u64 0]], .s (.v (.int .i64 e))] → Γ.g 77 [.a [.c (.v (.bool a)), .c (.sl b1 b2), .c (.sl c1 c2)], .s (.v (.int .i64 8))] k ∨ R := fun Γ d' k R hΓ hk => call_by hΓ rnumber_sound ⟨it, 8, by rw [hA]; rfl, by omega, hby, hb, by unfold pw; rw [hx, ← he]; exact hk⟩
  rw [← hz, ← he] at hk
  subst hargs
  conv => cbv
  refine hcall _ _ _ _ hΓ ?_
  conv => cbv
  exact hk
end Go.Eng
namespace Go.Eng
open Go Go.Proofs
set_option maxRecDepth 100000
set_option maxHeartbeats 4000000
set_option linter.unusedVariables false

def auOf : List It → Option Au
  | [x0, x1, x2, x3, x4, x5] =>
    if (x0.num 32).2 = 0 then if (x1.getFixed 20).2 = 0 then if (x2.num 8).2 = 0 then if (x3.num 8).2 = 0 ∧ (x3.num 8).1 ≤ 255 then if (x4.num 32).2 = 0 then if (x5.num 32).2 = 0 then
      some ⟨(x0.num 32).1, (x1.getFixed 20).1, (x2.num 8).1, (x3.num 8).1, (x4.num 32).1, (x5.num 32).1⟩
    else none else none else none else none else none else none
  | _ => none
def authOf (it : It) : Option Au := if it.getList.2 = 0 then auOf it.getList.1 else none
def zAu : Au := ⟨0, List.replicate 20 0, 0, 0, 0, 0⟩
def auR : Option Au → List PR
  | some u => [.a u.row, .s (.v (.bool true))]
  | none => [.a zAu.row, .s (.v (.bool false))]

theorem call_inN {P : Program} {ar : Ar} {Γ : Ctx} {d : Nat} {f : FuncId} {fn : Func} {c : Code} {R : Prop} {st : List Value → Func → St} {κ : List Value → Func → Kt} (har : ar = arS) (hΓ : Γ = ctx P (d + 1)) (hf : P.funcs[f]? = some fn) (hb : fn.body = some c)
    (h : ∀ Γ', Γ' = ctx P d → ∀ vs, vcC ar Γ' c (st vs fn) (κ vs fn)) : (∃ fn c, Γ.bd f fn c ∧ ∀ vs, Γ.inl c (st vs fn) (κ vs fn)) ∨ R := by
  subst hΓ; subst har
  exact .inl ⟨fn, c, ⟨hf, hb⟩, fun vs => h _ rfl vs⟩

theorem auOf_none : ∀ l : List It, l.length ≠ 6 → auOf l = none
  | [], _ => rfl
  | [_], _ => rfl
  | [_, _], _ => rfl
  | [_, _, _], _ => rfl
  | [_, _, _, _], _ => rfl
  | [_, _, _, _, _], _ => rfl
  | [_, _, _, _, _, _], h => absurd rfl h
  | _ :: _ :: _ :: _ :: _ :: _ :: _ :: _, _ => rfl
theorem six_of : ∀ l : List It, l.length = 6 → ∃ x0 x1 x2 x3 x4 x5, l = [x0, x1, x2, x3, x4, x5]
  | [x0, x1, x2, x3, x4, x5], _ => ⟨x0, x1, x2, x3, x4, x5, rfl⟩

theorem auth_sound : Sound Try.prog 38 fun args k => ∃ (it : It), args = [.a it.row] ∧ it.byt ∧ it.bulk ≤ 2 ^ 40 ∧ k (auR (authOf it)) := by
  refine Sound.of_bodyI 1 tt_ok ent_ok Try.func38 rfl ?_
  rintro ar har Γ hΓ args k ⟨it, hargs, hby, hb, hk⟩
  have callGL : ∀ (it : It) (A : List PS) (B : List (List PS)) (e : Int) (Γ : Ctx) (d' : Nat) (k : List PR → Prop) (R : Prop), Γ = ctx Try.prog d' → it.row = A → it.bulk ≤ 2 ^ 40 → B = rowsOf it.getList.1 → e = it.getList.2 → k [.s (.sl B []), .s (.v (.int .i64 e))] → Γ.g 34 [.a A] k ∨ R := fun it A B e Γ d' k R hΓ hA hb hB he hk => call_by hΓ getList_sound ⟨it, by rw [hA], hb, by rw [← hB, ← he]; exact hk⟩
  have callGF : ∀ (it : It) (n : Nat) (m : Int) (A : List PS) (B : List (List PS)) (e : Int) (Γ : Ctx) (d' : Nat) (k : List PR → Prop) (R : Prop), Γ = ctx Try.prog d' → m = (n : Int) → it.row = A → it.bulk ≤ 2 ^ 40 → B = (it.getFixed n).1.map b8 → e = (it.getFixed n).2 → k [.s (.sl B []), .s (.v (.int .i64 e))] → Γ.g 50 [.a A, .s (.v (.int .i64 m))] k ∨ R := fun it n m A B e Γ d' k R hΓ hm hA hb hB he hk => call_by hΓ getFixed_sound ⟨it, n, by rw [hA, hm], hb, by rw [← hB, ← he]; exact hk⟩
  have callGN : ∀ (it : It) (A : List PS) (x : List Value) (e : Int) (Γ : Ctx) (d' : Nat) (k : List PR → Prop) (R : Prop), Γ = ctx Try.prog d' → it.row = A → it.byt → it.bulk ≤ 2 ^ 40 → x = w4 (it.num 32).1 → e = (it.num 32).2 → k [.a [.r 4 x], .s (.v (.int .i64 e))] → Γ.g 66 [.a A] k ∨ R := fun it A x e Γ d' k R hΓ hA hy hb hx he hk => call_by hΓ getNumber_sound ⟨it, by rw [hA], hy, hb, by unfold pw; rw [← hx, ← he]; exact hk⟩
  have callGS : ∀ (it : It) (A : List PS) (z : Int) (e : Int) (Γ : Ctx) (d' : Nat) (k : List PR → Prop) (R : Prop), Γ = ctx Try.prog d' → it.row = A → it.byt → it.bulk ≤ 2 ^ 40 → z = ((it.num 8).1 : Nat) → e = (it.num 8).2 → k [.s (.v (.int .u64 z)), .s (.v (.int .i64 e))] → Γ.g 69 [.a A] k ∨ R := fun it A z e Γ d' k R hΓ hA hy hb hx he hk => call_by hΓ getSmall_sound ⟨it, by rw [hA], hy, hb, by rw [← hx, ← he]; exact hk⟩
  obtain ⟨a, ⟨b1, b2⟩, ⟨c1, c2⟩, hA⟩ := row3 it
  obtain ⟨P, hP⟩ : ∃ P, P = rowsOf it.getList.1 := ⟨_, rfl⟩
  obtain ⟨e, he⟩ : ∃ e, e = it.getList.2 := ⟨_, rfl⟩
  have hPl : ar.len P = (it.getList.1.length : Int) := by rw [lenIs har, hP, rowsOf_length]
  have hPb := getList_bulk it
  have hPy := getList_byt hby
  rw [hA] at hargs
  have hno : (authOf it = none) → k [.a zAu.row, .s (.v (.bool false))] := fun h => by rw [h] at hk; exact hk
  have i0 : (0 : Int) ≤ 0 := by omega
  have nT : ar.nb false = true := by rw [har]; rfl
  have nF : ar.nb true = false := by rw [har]; rfl
  have i1 : (0 : Int) ≤ 1 := by omega
  have i2 : (0 : Int) ≤ 2 := by omega
  have i3 : (0 : Int) ≤ 3 := by omega
  have i4 : (0 : Int) ≤ 4 := by omega
  have i5 : (0 : Int) ≤ 5 := by omega
  subst hargs
  conv => cbv
  refine call_inN har hΓ Try.func52 rfl ?_
  intro Γ' hΓ' vs
  conv => cbv
  refine call_inN har hΓ Try.func53 rfl ?_
  intro Γ' hΓ' vs
  conv => cbv
  refine call_inN har hΓ Try.func54 rfl ?_
  intro Γ' hΓ' vs
  conv => cbv
  refine call_inN har hΓ Try.func54 rfl ?_
  intro Γ' hΓ' vs
  conv => cbv
  refine call_inN har hΓ Try.func52 rfl ?_
  intro Γ' hΓ' vs
  conv => cbv
  refine call_inN har hΓ Try.func52 rfl ?_
  intro Γ' hΓ' vs
  conv => cbv
  refine callGL it _ P e _ _ _ _ hΓ hA hb hP he ?_
  conv => cbv
  refine ⟨fun h => ?_, fun h => ?_⟩
  · have g := cNne har (a := e) (b := 0) h
    have hO : authOf it = auOf it.getList.1 := by rw [authOf, if_pos (by rw [← he]; exact g)]
    conv => cbv
    refine ⟨fun h => ?_, fun h => ?_⟩
    · have g2 := cNe har (a := ar.len P) (b := 6) h
      have hr := hno (by rw [hO]; exact auOf_none _ (by omega))
      conv => cbv
      exact hr
    · have g2 := cNne har (a := ar.len P) (b := 6) h
      obtain ⟨x0, x1, x2, x3, x4, x5, hx⟩ := six_of it.getList.1 (by omega)
      rw [hx] at hP hO hPb hPy
      simp only [bulks] at hPb
      obtain ⟨y0, y1, y2, y3, y4, y5, -⟩ := hPy
      obtain ⟨a0, ⟨b01, b02⟩, ⟨c01, c02⟩, hX0⟩ := row3 x0
      obtain ⟨a1, ⟨b11, b12⟩, ⟨c11, c12⟩, hX1⟩ := row3 x1
      obtain ⟨a2, ⟨b21, b22⟩, ⟨c21, c22⟩, hX2⟩ := row3 x2
      obtain ⟨a3, ⟨b31, b32⟩, ⟨c31, c32⟩, hX3⟩ := row3 x3
      obtain ⟨a4, ⟨b41, b42⟩, ⟨c41, c42⟩, hX4⟩ := row3 x4
      obtain ⟨a5, ⟨b51, b52⟩, ⟨c51, c52⟩, hX5⟩ := row3 x5
      have r0 : P[(0 : Int).toNat]? = some [.c (.v (.bool a0)), .c (.sl b01 b02), .c (.sl c01 c02)] := by rw [hP, ← hX0]; rfl
      have r1 : P[(1 : Int).toNat]? = some [.c (.v (.bool a1)), .c (.sl b11 b12), .c (.sl c11 c12)] := by rw [hP, ← hX1]; rfl
      have r2 : P[(2 : Int).toNat]? = some [.c (.v (.bool a2)), .c (.sl b21 b22), .c (.sl c21 c22)] := by rw [hP, ← hX2]; rfl
      have r3 : P[(3 : Int).toNat]? = some [.c (.v (.bool a3)), .c (.sl b31 b32), .c (.sl c31 c32)] := by rw [hP, ← hX3]; rfl
      have r4 : P[(4 : Int).toNat]? = some [.c (.v (.bool a4)), .c (.sl b41 b42), .c (.sl c41 c42)] := by rw [hP, ← hX4]; rfl
      have r5 : P[(5 : Int).toNat]? = some [.c (.v (.bool a5)), .c (.sl b51 b52), .c (.sl c51 c52)] := by rw [hP, ← hX5]; rfl
      obtain ⟨v0, hv0⟩ : ∃ x, x = w4 (x0.num 32).1 := ⟨_, rfl⟩
      obtain ⟨e0, he0⟩ : ∃ x, x = (x0.num 32).2 := ⟨_, rfl⟩
      obtain ⟨D, hD⟩ : ∃ D, D = (x1.getFixed 20).1.map b8 := ⟨_, rfl⟩
      obtain ⟨e1, he1⟩ : ∃ x, x = (x1.getFixed 20).2 := ⟨_, rfl⟩
      obtain ⟨v1, hv1⟩ : ∃ x, x = u8s (x1.getFixed 20).1 := ⟨_, rfl⟩
      obtain ⟨v2, hv2⟩ : ∃ x : Int, x = ((x2.num 8).1 : Nat) := ⟨_, rfl⟩
      obtain ⟨e2, he2⟩ : ∃ x, x = (x2.num 8).2 := ⟨_, rfl⟩
      obtain ⟨v3, hv3⟩ : ∃ x : Int, x = ((x3.num 8).1 : Nat) := ⟨_, rfl⟩
      obtain ⟨e3, he3⟩ : ∃ x, x = (x3.num 8).2 := ⟨_, rfl⟩
      obtain ⟨v4, hv4⟩ : ∃ x, x = w4 (x4.num 32).1 := ⟨_, rfl⟩
      obtain ⟨e4, he4⟩ : ∃ x, x = (x4.num 32).2 := ⟨_, rfl⟩
      obtain ⟨v5, hv5⟩ : ∃ x, x = w4 (x5.num 32).1 := ⟨_, rfl⟩
      obtain ⟨e5, he5⟩ : ∃ x, x = (x5.num 32).2 := ⟨_, rfl⟩
      have hlt2 : (x2.num 8).1 < 18446744073709551616 := num_lt y2
      have nle2 : ∀ v : Int, v = ((x2.num 8).1 : Nat) → ar.nb (ar.cb .leq v 18446744073709551615) = false := fun v hv => by
        have h2 : ar.cb .leq v 18446744073709551615 = true := tcb har (by simp only [intC, decide_eq_true_eq]; omega)
        rw [h2]; exact nF
      conv => cbv
      refine .inl ⟨7, ?_⟩
      conv => cbv
      refine ⟨_, i0, r0, rfl, ?_⟩
      conv => cbv
      refine call_inN har hΓ Try.func65 rfl ?_
      intro Γ' hΓ' vs
      conv => cbv
      refine callGN x0 _ v0 e0 _ _ _ _ hΓ' hX0 y0 (by omega) hv0 he0 ?_
      conv => cbv
      refine ⟨fun h => ?_, fun h => ?_⟩
      · have g3 : e0 ≠ 0 := cNeq har (a := e0) (b := 0) (nbT har h)
        have hr := hno (by rw [hO, auOf, if_neg (by rw [← he0]; exact g3)])
        conv => cbv
        exact hr
      have g3 : e0 = 0 := cEq har (a := e0) (b := 0) (nbF har h)
      have hO1 := hO
      rw [auOf, if_pos (by rw [← he0]; exact g3)] at hO1
      conv => cbv
      refine ⟨_, i1, r1, rfl, ?_⟩
      conv => cbv
      refine call_inN har hΓ Try.func67 rfl ?_
      intro Γ' hΓ' vs
      conv => cbv
      refine callGF x1 20 20 _ D e1 _ _ _ _ hΓ' rfl hX1 (by omega) hD he1 ?_
      conv => cbv
      refine ⟨fun h => ?_, fun h => ?_⟩
      · have g5 : e1 ≠ 0 := cNe har (a := e1) (b := 0) h
        have hr := hno (by rw [hO1]; rw [if_neg (by rw [← he1]; exact g5)])
        conv => cbv
        exact hr
      have g5_1 : e1 = 0 := cNne har (a := e1) (b := 0) h
      have hO2 := hO1
      rw [if_pos (by rw [← he1]; exact g5_1)] at hO2
      have hlen20 : (x1.getFixed 20).1.length = 20 := getFixed_len (by rw [← he1]; exact g5_1)
      have hcut := take20 hD hlen20
      rw [← hv1] at hcut
      have hv1l : v1.length = 20 := by rw [hv1, u8s, List.length_map, hlen20]
      conv => cbv
      refine ⟨by rw [har]; kernel_rfl, ?_⟩
      refine ⟨v1, hv1l, hcut, ?_⟩
      conv => cbv
      refine ⟨_, i2, r2, rfl, ?_⟩
      conv => cbv
      refine call_inN har hΓ Try.func68 rfl ?_
      intro Γ' hΓ' vs
      conv => cbv
      refine callGS x2 _ v2 e2 _ _ _ _ hΓ' hX2 y2 (by omega) hv2 he2 ?_
      conv => cbv
      refine ⟨fun h => ?_, fun h => ?_⟩
      rotate_left
      · have g5 : e2 ≠ 0 := cNeq har (a := e2) (b := 0) h
        have hr := hno (by rw [hO2]; rw [if_neg (by rw [← he2]; exact g5)])
        conv => cbv
        exact hr
      have g5_2 : e2 = 0 := cEq har (a := e2) (b := 0) h
      conv => cbv
      refine onF (nle2 v2 hv2) ?_
      have hO3 := hO2
      rw [if_pos (by rw [← he2]; exact g5_2)] at hO3
      conv => cbv
      refine ⟨_, i3, r3, rfl, ?_⟩
      conv => cbv
      refine call_inN har hΓ Try.func68 rfl ?_
      intro Γ' hΓ' vs
      conv => cbv
      refine callGS x3 _ v3 e3 _ _ _ _ hΓ' hX3 y3 (by omega) hv3 he3 ?_
      conv => cbv
      refine ⟨fun h => ?_, fun h => ?_⟩
      rotate_left
      · have g5 : e3 ≠ 0 := cNeq har (a := e3) (b := 0) h
        have hr := hno (by rw [hO3]; rw [if_neg (fun hh => g5 (by rw [he3]; exact hh.1))])
        conv => cbv
        exact hr
      have g5_3 : e3 = 0 := cEq har (a := e3) (b := 0) h
      conv => cbv
      refine ⟨fun h => ?_, fun h => ?_⟩
      · have g5 : ¬ v3 ≤ 255 := Int.not_le.2 (cNle har (a := v3) (b := 255) (nbT har h))
        have hr := hno (by rw [hO3]; rw [if_neg (fun hh => g5 (by rw [hv3]; exact Int.ofNat_le.2 hh.2))])
        conv => cbv
        exact hr
      have g6_3 : v3 ≤ 255 := cLe har (a := v3) (b := 255) (nbF har h)
      have hO4 := hO3
      rw [if_pos ⟨by rw [← he3]; exact g5_3, by rw [hv3] at g6_3; exact Int.ofNat_le.1 g6_3⟩] at hO4
      conv => cbv
      refine ⟨_, i4, r4, rfl, ?_⟩
      conv => cbv
      refine call_inN har hΓ Try.func65 rfl ?_
      intro Γ' hΓ' vs
      conv => cbv
      refine callGN x4 _ v4 e4 _ _ _ _ hΓ' hX4 y4 (by omega) hv4 he4 ?_
      conv => cbv
      refine ⟨fun h => ?_, fun h => ?_⟩
      · have g5 : e4 ≠ 0 := cNeq har (a := e4) (b := 0) (nbT har h)
        have hr := hno (by rw [hO4]; rw [if_neg (by rw [← he4]; exact g5)])
        conv => cbv
        exact hr
      have g5_4 : e4 = 0 := cEq har (a := e4) (b := 0) (nbF har h)
      have hO5 := hO4
      rw [if_pos (by rw [← he4]; exact g5_4)] at hO5
      conv => cbv
      refine ⟨_, i5, r5, rfl, ?_⟩
      conv => cbv
      refine call_inN har hΓ Try.func65 rfl ?_
      intro Γ' hΓ' vs
      conv => cbv
      refine callGN x5 _ v5 e5 _ _ _ _ hΓ' hX5 y5 (by omega) hv5 he5 ?_
      conv => cbv
      refine ⟨fun h => ?_, fun h => ?_⟩
      · have g5 : e5 ≠ 0 := cNeq har (a := e5) (b := 0) (nbT har h)
        have hr := hno (by rw [hO5]; rw [if_neg (by rw [← he5]; exact g5)])
        conv => cbv
        exact hr
      have g5_5 : e5 = 0 := cEq har (a := e5) (b := 0) (nbF har h)
      have hO6 := hO5
      rw [if_pos (by rw [← he5]; exact g5_5)] at hO6
      rw [hO6] at hk
      have hk : k [.a [.r 4 v0, .r 20 v1, .c (.v (.int .u64 v2)), .c (.v (.int .u64 v3)), .r 4 v4, .r 4 v5], .s (.v (.bool true))] := by rw [hv0, hv1, hv2, hv3, hv4, hv5]; exact hk
      conv => cbv
      exact hk
  · have g := cNe har (a := e) (b := 0) h
    have hr := hno (by rw [authOf, if_neg (by rw [← he]; exact g)])
    conv => cbv
    exact hr
end Go.Eng
namespace Go.Eng
open Go Go.Proofs
set_option maxRecDepth 100000
set_option maxHeartbeats 4000000
set_option linter.unusedVariables false

def consU (x : Option Au) (l : Option (List Au)) : Option (List Au) :=
  match x with
  | some u => l.map (u :: ·)
  | none => none
def ausOf : List It → Option (List Au)
  | [] => some []
  | x :: l => consU (authOf x) (ausOf l)
def parseAOf (it : It) : Option (List Au) := if it.getList.2 = 0 then ausOf it.getList.1 else none
def parseAR : Option (List Au) → List PR
  | some us => [.s (.sl (us.map Au.row) []), .s (.v (.int .i64 0))]
  | none => [.s (.sl [] []), .s (.v (.int .i64 141))]

theorem ausOf_append : ∀ (a : List It) (x : It), ausOf (a ++ [x]) = match ausOf a, authOf x with | some l, some u => some (l ++ [u]) | _, _ => none
  | [], x => by
    simp only [List.nil_append, ausOf, consU]
    cases authOf x <;> rfl
  | y :: a, x => by
    simp only [List.cons_append, ausOf]
    rw [ausOf_append a x]
    cases h1 : authOf y with
    | none => cases ausOf a <;> cases authOf x <;> rfl
    | some p => cases ausOf a <;> cases authOf x <;> rfl
theorem ausOf_none : ∀ (a b : List It), ausOf a = none → ausOf (a ++ b) = none
  | [], _, h => by cases h
  | x :: a, b, h => by
    simp only [List.cons_append, ausOf] at h ⊢
    cases h1 : authOf x with
    | none => rfl
    | some p =>
      rw [h1] at h
      cases h2 : ausOf a with
      | none => rw [ausOf_none a b h2]; rfl
      | some l => rw [h2] at h; cases h

theorem parseAuth_sound : Sound Try.prog 21 fun args k => ∃ (it : It), args = [.a it.row] ∧ it.byt ∧ it.bulk ≤ 2 ^ 39 ∧ k (parseAR (parseAOf it)) := by
  refine Sound.of_body tt_ok ent_ok Try.func21 rfl ?_
  rintro ar har Γ hΓ args k ⟨it, hargs, hby, hb, hk⟩
  have callGL : ∀ (it : It) (A : List PS) (B : List (List PS)) (e : Int) (Γ : Ctx) (d' : Nat) (k : List PR → Prop) (R : Prop), Γ = ctx Try.prog d' → it.row = A → it.bulk ≤ 2 ^ 40 → B = rowsOf it.getList.1 → e = it.getList.2 → k [.s (.sl B []), .s (.v (.int .i64 e))] → Γ.g 34 [.a A] k ∨ R := fun it A B e Γ d' k R hΓ hA hb hB he hk => call_by hΓ getList_sound ⟨it, by rw [hA], hb, by rw [← hB, ← he]; exact hk⟩
  have callE : ∀ (it : It) (A : List PS) (c1 c2 c5 c6 : List Value) (c3 c4 : Int) (o : Bool) (Γ : Ctx) (d' : Nat) (k : List PR → Prop) (R : Prop), Γ = ctx Try.prog d' → it.row = A → it.byt → it.bulk ≤ 2 ^ 40 → auR (authOf it) = [.a [.r 4 c1, .r 20 c2, .c (.v (.int .u64 c3)), .c (.v (.int .u64 c4)), .r 4 c5, .r 4 c6], .s (.v (.bool o))] → k [.a [.r 4 c1, .r 20 c2, .c (.v (.int .u64 c3)), .c (.v (.int .u64 c4)), .r 4 c5, .r 4 c6], .s (.v (.bool o))] → Γ.g 38 [.a A] k ∨ R := fun it A c1 c2 c5 c6 c3 c4 o Γ d' k R hΓ hA hy hb he hk => call_by hΓ auth_sound ⟨it, by rw [hA], hy, hb, by rw [he]; exact hk⟩
  obtain ⟨a, ⟨b1, b2⟩, ⟨c1, c2⟩, hA⟩ := row3 it
  obtain ⟨P, hP⟩ : ∃ P, P = rowsOf it.getList.1 := ⟨_, rfl⟩
  obtain ⟨e, he⟩ : ∃ e, e = it.getList.2 := ⟨_, rfl⟩
  have hPl : ar.len P = (it.getList.1.length : Int) := by rw [lenIs har, hP, rowsOf_length]
  have hPb := getList_bulk it
  have hpl := bulks_len it.getList.1
  have hPy := getList_byt hby
  rw [hA] at hargs
  have hno : (parseAOf it = none) → k [.s (.sl [] []), .s (.v (.int .i64 141))] := fun h => by rw [h] at hk; exact hk
  subst hargs
  conv => cbv
  refine callGL it _ P e _ _ _ _ hΓ hA (by omega) hP he ?_
  conv => cbv
  refine ⟨fun h => ?_, fun h => ?_⟩
  · have g := cNe har (a := e) (b := 0) h
    have hr := hno (by rw [parseAOf, if_neg (by rw [← he]; exact g)])
    conv => cbv
    exact hr
  · have g := cNne har (a := e) (b := 0) h
    have hO : parseAOf it = ausOf it.getList.1 := by rw [parseAOf, if_pos (by rw [← he]; exact g)]
    conv => cbv
    refine .inr ⟨{ q : Nat × Int × List (List PS) // q.1 ≤ it.getList.1.length ∧ q.2.1 = q.1 ∧ ∃ es, ausOf (it.getList.1.take q.1) = some es ∧ q.2.2 = es.map Au.row ∧ es.length = q.1 },
      fun q => ⟨mk 37 [(2, .s .nil), (3, .s (.lit .i64 0)), (6, .s (.own 1)), (18, .s (.p (.sl P []))), (19, pint (ar.len P)), (20, pint q.1.2.1)], [.gone, .arr q.1.2.2 45 34 136 true]⟩,
      fun q => it.getList.1.length - q.1.1, [.slot 6 45], _, ⟨(0, 0, []), Nat.zero_le _, rfl, [], rfl, rfl, rfl⟩, rfl, ?_, ?_⟩
    · conv => cbv
      simp
    · rintro ⟨⟨r, ri, L⟩, hr⟩
      have hrp : r ≤ it.getList.1.length := hr.1
      have hri : ri = (r : Int) := hr.2.1
      obtain ⟨es, hes, hL, hel⟩ : ∃ es, ausOf (it.getList.1.take r) = some es ∧ L = es.map Au.row ∧ es.length = r := hr.2.2
      have hLl : L.length = r := by rw [hL, List.length_map, hel]
      dsimp only
      conv => cbv
      refine ⟨fun h => ?_, fun h => ?_⟩
      · have g' := cLt har (b := ar.len P) h
        have hrl : r < it.getList.1.length := by omega
        obtain ⟨w, hw⟩ : ∃ w, it.getList.1[r]? = some w := ⟨_, List.getElem?_eq_getElem hrl⟩
        obtain ⟨wa, ⟨wb1, wb2⟩, ⟨wc1, wc2⟩, hWr⟩ := row3 w
        have hwb := bulk_get hw
        have rw1 : P[ri.toNat]? = some [.c (.v (.bool wa)), .c (.sl wb1 wb2), .c (.sl wc1 wc2)] := by rw [hP, hri, Int.toNat_natCast, rowsOf_get hw, hWr]
        have hwy := byts_mem hPy (List.mem_of_getElem? hw)
        obtain ⟨c1, c2, c5, c6, c3, c4, o, hE⟩ : ∃ c1 c2 c5 c6 c3 c4 o, auR (authOf w) = [.a [.r 4 c1, .r 20 c2, .c (.v (.int .u64 c3)), .c (.v (.int .u64 c4)), .r 4 c5, .r 4 c6], .s (.v (.bool o))] := by
          cases authOf w with
          | none => exact ⟨_, _, _, _, _, _, _, rfl⟩
          | some u => exact ⟨_, _, _, _, _, _, _, rfl⟩
        have hA1 : o = false → authOf w = none := fun h => by
          subst h
          cases h1 : authOf w with
          | none => rfl
          | some p => rw [h1] at hE; simp [auR] at hE
        have hA2 : o = true → ∃ u, authOf w = some u ∧ u.row = [.r 4 c1, .r 20 c2, .c (.v (.int .u64 c3)), .c (.v (.int .u64 c4)), .r 4 c5, .r 4 c6] := fun h => by
          subst h
          cases h1 : authOf w with
          | none => rw [h1] at hE; simp [auR] at hE
          | some u => rw [h1] at hE; simp only [auR, List.cons.injEq, PR.a.injEq] at hE; exact ⟨u, rfl, hE.1⟩
        conv => cbv
        refine ⟨_, by omega, rw1, rfl, ?_⟩
        conv => cbv
        refine callE w _ c1 c2 c5 c6 c3 c4 o _ _ _ _ hΓ hWr hwy (by omega) hE ?_
        conv => cbv
        refine ⟨fun h => ?_, fun h => ?_⟩
        · have g5 := nbT har h
          have hn : ausOf it.getList.1 = none := by
            rw [← List.take_append_drop (r + 1) it.getList.1]
            refine ausOf_none _ _ ?_
            rw [take_succ_get hw, ausOf_append, hes, hA1 g5]
          have hr := hno (by rw [hO, hn])
          conv => cbv
          exact hr
        · have g5 := nbF har h
          obtain ⟨u, hE1, hE2⟩ := hA2 g5
          have hes2 : ausOf (it.getList.1.take (r + 1)) = some (es ++ [u]) := by
            rw [take_succ_get hw, ausOf_append, hes, hE1]
          have hL2 : ar.app L [[.r 4 c1, .r 20 c2, .c (.v (.int .u64 c3)), .c (.v (.int .u64 c4)), .r 4 c5, .r 4 c6]] = (es ++ [u]).map Au.row := by
            rw [appIs har, hL, List.map_append, ← hE2]; rfl
          have s1 : (L.length + 1) * 136 ≤ 140737488355328 ∧ ∀ y ∈ [[PS.r 4 c1, .r 20 c2, .c (.v (.int .u64 c3)), .c (.v (.int .u64 c4)), .r 4 c5, .r 4 c6]], rlen y = 34 := ⟨by omega, by simp [rlen, PS.len]⟩
          conv => cbv
          refine ⟨fun _ => s1, ?_⟩
          refine ⟨⟨(r + 1, ar.ib .add .i64 ri 1, ar.app L [[.r 4 c1, .r 20 c2, .c (.v (.int .u64 c3)), .c (.v (.int .u64 c4)), .r 4 c5, .r 4 c6]]), hrl, iSucc har hri (by omega), _, hes2, hL2, by rw [List.length_append, hel]; rfl⟩, ?_, ?_⟩
          · dsimp only
            conv => cbv
            simp
          · show it.getList.1.length - (r + 1) < it.getList.1.length - r
            omega
      · have g' := cNlt har (b := ar.len P) h
        have hre : r = it.getList.1.length := by omega
        rw [hre, List.take_length] at hes
        rw [hO, hes] at hk
        have hk : k [.s (.sl L []), .s (.v (.int .i64 0))] := by rw [hL]; exact hk
        conv => cbv
        exact hk
end Go.Eng
namespace Go.Eng
open Go Go.Proofs
set_option maxRecDepth 100000
set_option maxHeartbeats 4000000
set_option linter.unusedVariables false

theorem num14_sound : Sound Try.prog 10 fun args k => ∃ e : Int, args = [.s (.v (.int .i64 e))] ∧ k [.s (.v (.int .i64 e))] := by
  refine Sound.of_body tt_ok ent_ok Try.func10 rfl ?_
  rintro ar har Γ hΓ args k ⟨e, hargs, hk⟩
  subst hargs
  conv => cbv
  exact hk

theorem sameAuths_sound : Sound Try.prog 16 fun args k => ∃ (us : List Au) (s t : List (List PS)), args = [.s (.sl (us.map Au.row) s), .s (.sl (us.map Au.row) t)] ∧ us.length ≤ 2 ^ 30 ∧ (∀ u ∈ us, u.ok ∧ bytesOk u.a) ∧ k [.s (.v (.bool true))] := by
  refine Sound.of_body tt_ok ent_ok Try.func16 rfl ?_
  rintro ar har Γ hΓ args k ⟨us, s, t, hargs, hl, h20, hk⟩
  obtain ⟨X, hX⟩ : ∃ X, X = us.map Au.row := ⟨_, rfl⟩
  have hXl : ar.len X = (us.length : Int) := by rw [lenIs har, hX, List.length_map]
  have hne : ar.cb .neq (ar.len X) (ar.len X) = false := dNne har rfl
  rw [← hX] at hargs
  subst hargs
  conv => cbv
  refine onF hne ?_
  conv => cbv
  refine .inr ⟨{ q : Nat × Int // q.1 ≤ us.length ∧ q.2 = q.1 },
    fun q => ⟨mk 26 [(0, .s (.p (.sl X s))), (1, .s (.p (.sl X t))), (5, pint q.1.2)], []⟩,
    fun q => us.length - q.1.1, [], _, ⟨(0, 0), Nat.zero_le _, rfl⟩, rfl, ?_, ?_⟩
  · conv => cbv
    simp
  · rintro ⟨⟨p, pi⟩, hq⟩
    have hp : p ≤ us.length := hq.1
    have hpi : pi = (p : Int) := hq.2
    dsimp only
    conv => cbv
    refine ⟨fun h => ?_, fun h => ?_⟩
    · have g := cLt har (b := ar.len X) h
      have hlt : p < us.length := by omega
      obtain ⟨u, hx⟩ : ∃ e, us[p]? = some e := ⟨_, List.getElem?_eq_getElem hlt⟩
      obtain ⟨x0, x1, x2, x3, a0, a1, a2, a3, a4, a5, a6, a7, a8, a9, a10, a11, a12, a13, a14, a15, a16, a17, a18, a19, c3, c4, y0, y1, y2, y3, z0, z1, z2, z3, hrow, hokL, _⟩ := au_cells2 u (h20 u (List.mem_of_getElem? hx)).1 (h20 u (List.mem_of_getElem? hx)).2
      have hself := eqVals_self (l := []) hokL
      have nT : ar.nb true = false := by rw [har]; rfl
      have rx : X[pi.toNat]? = some [.r 4 [.int .u64 x0, .int .u64 x1, .int .u64 x2, .int .u64 x3], .r 20 [.int .u8 a0, .int .u8 a1, .int .u8 a2, .int .u8 a3, .int .u8 a4, .int .u8 a5, .int .u8 a6, .int .u8 a7, .int .u8 a8, .int .u8 a9, .int .u8 a10, .int .u8 a11, .int .u8 a12, .int .u8 a13, .int .u8 a14, .int .u8 a15, .int .u8 a16, .int .u8 a17, .int .u8 a18, .int .u8 a19], .c (.v (.int .u64 c3)), .c (.v (.int .u64 c4)), .r 4 [.int .u64 y0, .int .u64 y1, .int .u64 y2, .int .u64 y3], .r 4 [.int .u64 z0, .int .u64 z1, .int .u64 z2, .int .u64 z3]] := by rw [hX, hpi, ← hrow]; simp [hx]
      conv => cbv
      refine ⟨by rw [har]; kernel_rfl, ?_⟩
      refine ⟨_, by omega, rx, rfl, ?_⟩
      conv => cbv
      refine ⟨_, by omega, rx, rfl, ?_⟩
      conv => cbv
      refine ⟨true, fun _ => ⟨hokL, hokL, hself⟩, ?_⟩
      conv => cbv
      refine onF nT ?_
      conv => cbv
      refine ⟨⟨(p + 1, ar.ib .add .i64 pi 1), hlt, iSucc har hpi (by omega)⟩, ?_, ?_⟩
      · dsimp only
        conv => cbv
        simp
      · show us.length - (p + 1) < us.length - p
        omega
    · conv => cbv
      exact hk
end Go.Eng
namespace Go.Eng
open Go Go.Proofs
set_option linter.unusedVariables false

/-! ### Numbers come back from their bytes -/
theorem be_zero_top {n p : Nat} : be n (p + 1) = ((n / 256 ^ p % 256 : Nat) : Int) :: be n p := rfl
theorem bev_cons (b : Int) (l : List Int) : bev (b :: l) = b.toNat * 256 ^ l.length + bev l := by
  have : ∀ (l : List Int) (n : Nat), l.foldl (fun n b => n * 256 + b.toNat) n = n * 256 ^ l.length + l.foldl (fun n b => n * 256 + b.toNat) 0 := by
    intro l
    induction l with
    | nil => intro n; simp
    | cons c l ih =>
      intro n
      rw [List.foldl_cons, List.foldl_cons, ih, ih (0 * 256 + c.toNat), List.length_cons, Nat.pow_succ, Nat.add_mul, Nat.zero_mul, Nat.zero_add, Nat.mul_comm (256 ^ l.length) 256, ← Nat.mul_assoc, Nat.add_assoc]
  unfold bev
  rw [List.foldl_cons, this, Nat.zero_mul, Nat.zero_add]
theorem bev_be (n : Nat) : ∀ p, bev (be n p) = n % 256 ^ p
  | 0 => by rw [be, Nat.pow_zero, Nat.mod_one]; rfl
  | p + 1 => by
    rw [be, bev_cons, be_length, bev_be n p, Int.toNat_natCast]
    have h1 := Nat.mod_add_div (n % 256 ^ (p + 1)) (256 ^ p)
    have h2 : n % 256 ^ (p + 1) / 256 ^ p = n / 256 ^ p % 256 := by
      rw [Nat.pow_succ, Nat.mod_mul_right_div_self]
    have h3 : n % 256 ^ (p + 1) % 256 ^ p = n % 256 ^ p := Nat.mod_mod_of_dvd _ (Nat.pow_dvd_pow 256 (by omega))
    rw [h2, h3] at h1
    rw [Nat.mul_comm]; omega

theorem lt_pow_blen (n : Nat) : n < 256 ^ blen n := by
  have e : (256 : Nat) ^ blen n = 2 ^ (8 * blen n) := by rw [Nat.pow_mul]
  rw [e]
  unfold blen bl
  split
  · omega
  · rename_i h
    have h1 := Nat.lt_log2_self (n := n)
    refine Nat.lt_of_lt_of_le h1 (Nat.pow_le_pow_right (by omega) (by omega))
theorem pow_blen_le {n : Nat} (h : n ≠ 0) : 256 ^ (blen n - 1) ≤ n := by
  have e : (256 : Nat) ^ (blen n - 1) = 2 ^ (8 * (blen n - 1)) := by rw [Nat.pow_mul]
  rw [e]
  unfold blen bl
  rw [if_neg h]
  refine Nat.le_trans (Nat.pow_le_pow_right (by omega) ?_) (Nat.log2_self_le h)
  omega
theorem bev_numB (n : Nat) : bev (numB n) = n := by rw [numB, bev_be, Nat.mod_eq_of_lt (lt_pow_blen n)]
theorem strict_numB (n : Nat) : strictR (numB n) = (n, 0) := by
  have hb := bev_numB n
  have hp := fun h => pow_blen_le (n := n) h
  have hl : (numB n).length = blen n := by rw [numB, be_length]
  cases hn : blen n with
  | zero =>
    have h0 := lt_pow_blen n
    rw [hn] at h0
    have : n = 0 := by omega
    subst this
    rfl
  | succ q =>
    have e : numB n = ((n / 256 ^ q % 256 : Nat) : Int) :: be n q := by rw [numB, hn, be]
    have hne : n ≠ 0 := fun h => by subst h; simp [blen, bl] at hn
    have h1 := hp hne
    rw [hn, Nat.add_sub_cancel] at h1
    have h2 := lt_pow_blen n
    rw [hn, Nat.pow_succ, Nat.mul_comm] at h2
    have h3 : 0 < 256 ^ q := Nat.pow_pos (by omega)
    have h4 : 1 ≤ n / 256 ^ q := (Nat.le_div_iff_mul_le h3).2 (by omega)
    have h5 : n / 256 ^ q < 256 := (Nat.div_lt_iff_lt_mul h3).2 (by rw [Nat.mul_comm]; omega)
    rw [e] at hb ⊢
    rw [strictR, if_neg (by omega), hb]
theorem num_numIt {n m : Nat} (h : n < 256 ^ m) : (numIt n).num m = (n, 0) := by
  have hk : (numIt n).ke false = 0 := rfl
  have hl : ¬ m < (numB n).length := by
    rw [numB, be_length]
    intro hlt
    by_cases h0 : n = 0
    · subst h0; simp [blen, bl] at hlt
    · have h1 := pow_blen_le h0
      have h2 : 256 ^ m ≤ 256 ^ (blen n - 1) := Nat.pow_le_pow_right (by omega) (by omega)
      omega
  show numR m ((numIt n).ke false) (numB n) = _
  rw [hk, numR, if_pos rfl, if_neg hl, strict_numB, if_pos rfl]

/-! ### Lists come back -/
theorem getFixed_txt {n : Nat} {d : List Int} (h : d.length = n) : (It.txt d).getFixed n = (d, 0) := by
  show fixR n 0 d = _
  rw [fixR, if_pos rfl, if_pos h]
theorem getList_lst (its : List It) : (It.lst its).getList = (strips its, 0) := rfl
theorem keysOf_ks : ∀ {ks : List (List Int)}, (∀ w ∈ ks, w.length = 32) → keysOf (ksIts ks) = some ks
  | [], _ => rfl
  | k :: ks, h => by
    have h1 := keysOf_ks (ks := ks) fun w hw => h w (by simp [hw])
    have h2 := getFixed_txt (h k (by simp))
    show keysOf (It.txt k :: ksIts ks) = _
    rw [keysOf, h2, h1]; rfl
theorem entOf_ent {a : List Int} {ks : List (List Int)} (ha : a.length = 20) (hk : ∀ w ∈ ks, w.length = 32) : entOf (entIt a ks) = some (a, ks) := by
  have h1 : (entIt a ks).getList = ([It.txt a, It.lst (ksIts ks)], 0) := by
    rw [entIt, getList_lst, strips, strips, strips, strip_txt, strip_lst, strips_ks]
  have h2 : (It.lst (ksIts ks)).getList = (ksIts ks, 0) := by rw [getList_lst, strips_ks]
  rw [entOf, h1, if_pos rfl, entXY, getFixed_txt ha, if_pos rfl, entKs, h2, if_pos rfl, keysOf_ks hk]; rfl
def Ent.bare (e : Ent) : Ent := ⟨e.a, e.ks, []⟩
theorem entsOf_es : ∀ {es : List Ent}, (∀ e ∈ es, e.a.length = 20 ∧ ∀ w ∈ e.ks, w.length = 32) → entsOf (esIts es) = some (es.map Ent.bare)
  | [], _ => rfl
  | e :: es, h => by
    have h1 := entsOf_es (es := es) fun w hw => h w (by simp [hw])
    have h2 := h e (by simp)
    show entsOf (e.it :: esIts es) = _
    rw [entsOf, Ent.it, entOf_ent h2.1 h2.2, h1]; rfl
theorem parse_back {es : List Ent} (h : ∀ e ∈ es, e.a.length = 20 ∧ ∀ w ∈ e.ks, w.length = 32) : parseOf (It.lst (esIts es)) = some (es.map Ent.bare) := by
  rw [parseOf, getList_lst, if_pos rfl, strips_es, entsOf_es h]
theorem core_bare (es : List Ent) : (es.map Ent.bare).map Ent.core = es.map Ent.core := by rw [List.map_map]; rfl

theorem authOf_it {u : Au} (h : u.ok) (hp : u.pa ≤ 255) : authOf u.it = some u := by
  obtain ⟨h1, h2, h3, h4, h5, h6⟩ := h
  have e1 : u.it.getList = (u.parts, 0) := rfl
  rw [authOf, e1, if_pos rfl, Au.parts, auOf, num_numIt (m := 32) h1, getFixed_txt h2, num_numIt (m := 8) h3, num_numIt (m := 8) h4, num_numIt (m := 32) h5, num_numIt (m := 32) h6]
  simp only [if_pos, hp, and_self]
theorem ausOf_us : ∀ {us : List Au}, (∀ u ∈ us, u.ok) → wideU us = false → ausOf (usIts us) = some us
  | [], _, _ => rfl
  | u :: us, h, hw => by
    rw [wideU, List.any_cons, Bool.or_eq_false_iff, decide_eq_false_iff_not] at hw
    have h1 := ausOf_us (us := us) (fun w hw => h w (by simp [hw])) hw.2
    show ausOf (u.it :: usIts us) = _
    rw [ausOf, authOf_it (h u (by simp)) (by omega), h1]; rfl
theorem parseA_back {us : List Au} (h : ∀ u ∈ us, u.ok) (hw : wideU us = false) : parseAOf (It.lst (usIts us)) = some us := by
  rw [parseAOf, getList_lst, if_pos rfl, strips_us, ausOf_us h hw]

/-! ### The error is 2 or none -/
theorem okSs_of : ∀ {its : List It}, (∀ x ∈ its, okS x = true) → okSs its = true
  | [], _ => rfl
  | x :: xs, h => by rw [okSs, h x (by simp), okSs_of fun y hy => h y (by simp [hy])]; rfl
theorem depths_of {m : Nat} : ∀ {its : List It}, (∀ x ∈ its, dep x ≤ m) → depths its ≤ m
  | [], _ => Nat.zero_le _
  | x :: xs, h => by
    have h1 := h x (by simp)
    have h2 := depths_of (its := xs) fun y hy => h y (by simp [hy])
    rw [depths]; omega
theorem errOf_two {it : It} (h1 : okS it = true) (h2 : dep it ≤ 1024) : errOf it = 0 ∨ errOf it = 2 := by
  rw [errOf, if_pos h1, if_neg (by omega)]
  split
  · exact .inr rfl
  · exact .inl rfl
theorem okS_lst {its : List It} (h : ∀ x ∈ its, okS x = true) : okS (It.lst its) = true := by rw [It.lst, okS, okSs_of h]; rfl
theorem dep_lst {m : Nat} {its : List It} (h : ∀ x ∈ its, dep x ≤ m) : dep (It.lst its) ≤ m + 1 := by
  rw [It.lst, dep]; have := depths_of h; omega
theorem txt_ok (d : List Int) : okS (It.txt d) = true := rfl
theorem txt_dep (d : List Int) : dep (It.txt d) = 0 := rfl
theorem es_err (es : List Ent) : errOf (It.lst (esIts es)) = 0 ∨ errOf (It.lst (esIts es)) = 2 := by
  have hk : ∀ (ks : List (List Int)), ∀ x ∈ ksIts ks, okS x = true ∧ dep x = 0 := fun ks x hx => by
    rw [ksIts, List.mem_map] at hx
    obtain ⟨k, _, rfl⟩ := hx
    exact ⟨rfl, rfl⟩
  have he : ∀ (e : Ent), okS e.it = true ∧ dep e.it ≤ 2 := fun e => by
    refine ⟨okS_lst fun x hx => ?_, dep_lst fun x hx => ?_⟩
    · simp only [List.mem_cons, List.not_mem_nil, or_false] at hx
      rcases hx with rfl | rfl
      · rfl
      · exact okS_lst fun y hy => (hk _ y hy).1
    · simp only [List.mem_cons, List.not_mem_nil, or_false] at hx
      rcases hx with rfl | rfl
      · exact Nat.zero_le _
      · exact dep_lst fun y hy => Nat.le_of_eq (hk _ y hy).2
  refine errOf_two (okS_lst fun x hx => ?_) (Nat.le_trans (dep_lst (m := 2) fun x hx => ?_) (by omega))
  · rw [esIts, List.mem_map] at hx; obtain ⟨e, _, rfl⟩ := hx; exact (he e).1
  · rw [esIts, List.mem_map] at hx; obtain ⟨e, _, rfl⟩ := hx; exact (he e).2
theorem us_err (us : List Au) : errOf (It.lst (usIts us)) = 0 ∨ errOf (It.lst (usIts us)) = 2 := by
  have he : ∀ (u : Au), okS u.it = true ∧ dep u.it ≤ 1 := fun u => by
    refine ⟨rfl, dep_lst (m := 0) fun x hx => ?_⟩
    simp only [Au.parts, numIt, List.mem_cons, List.not_mem_nil, or_false] at hx
    rcases hx with rfl | rfl | rfl | rfl | rfl | rfl <;> exact Nat.le_refl _
  refine errOf_two (okS_lst fun x hx => ?_) (Nat.le_trans (dep_lst (m := 1) fun x hx => ?_) (by omega))
  · rw [usIts, List.mem_map] at hx; obtain ⟨e, _, rfl⟩ := hx; exact (he e).1
  · rw [usIts, List.mem_map] at hx; obtain ⟨e, _, rfl⟩ := hx; exact (he e).2

/-! ### All bytes are in their range -/
theorem numB_byt (n : Nat) : bytesOk (numB n) := be_range n _
theorem us_byt {us : List Au} (h : ∀ u ∈ us, bytesOk u.a) : (It.lst (usIts us)).byt := by
  refine ⟨fun b hb => (by cases hb), byts_of fun x hx => ?_⟩
  rw [usIts, List.mem_map] at hx
  obtain ⟨u, hu, rfl⟩ := hx
  refine ⟨fun b hb => (by cases hb), byts_of fun y hy => ?_⟩
  simp only [Au.parts, numIt, List.mem_cons, List.not_mem_nil, or_false] at hy
  rcases hy with rfl | rfl | rfl | rfl | rfl | rfl
  · exact ⟨numB_byt _, trivial⟩
  · exact ⟨h u hu, trivial⟩
  · exact ⟨numB_byt _, trivial⟩
  · exact ⟨numB_byt _, trivial⟩
  · exact ⟨numB_byt _, trivial⟩
  · exact ⟨numB_byt _, trivial⟩
end Go.Eng
namespace Go.Eng
open Go Go.Proofs
set_option maxRecDepth 100000
set_option maxHeartbeats 4000000
set_option linter.unusedVariables false

def nexts (l : List It) : List It := l.flatMap It.its
theorem nexts_bulk : ∀ l : List It, bulks (nexts l) + l.length ≤ bulks l
  | [] => Nat.le_refl _
  | x :: l => by
    have := nexts_bulk l
    obtain ⟨a, d, sd, its, ss⟩ := x
    have e : nexts (It.mk a d sd its ss :: l) = its ++ nexts l := rfl
    rw [e, bulks_append, bulks, It.bulk, List.length_cons]
    omega
theorem nexts_snoc (l : List It) (x : It) : nexts (l ++ [x]) = nexts l ++ x.its := by
  simp [nexts, List.flatMap_append]
theorem nexts_take (l : List It) (p : Nat) : bulks (nexts (l.take p)) ≤ bulks l := by
  have h1 := nexts_bulk (l.take p)
  have h2 : bulks l = bulks (l.take p) + bulks (l.drop p) := by rw [← bulks_append, List.take_append_drop]
  omega

theorem beyond_sound : Sound Try.prog 17 fun args k => ∃ it : It, args = [.a it.row] ∧ it.bulk ≤ 2 ^ 30 ∧ ∀ b : Bool, k [.s (.v (.bool b))] := by
  refine Sound.of_body tt_ok ent_ok Try.func17 rfl ?_
  rintro ar har Γ hΓ args k ⟨it, hargs, hb, hk⟩
  obtain ⟨a, ⟨b1, b2⟩, ⟨c1, c2⟩, hA⟩ := row3 it
  rw [hA] at hargs
  have hkT := hk true
  have hkF := hk false
  have h0 : rowsOf [it] = [[.c (.v (.bool a)), .c (.sl b1 b2), .c (.sl c1 c2)]] := by rw [rowsOf, hA]; rfl
  have hb1 : bulks [it] ≤ 2 ^ 30 := by rw [bulks, bulks]; omega
  subst hargs
  conv => cbv
  refine .inr ⟨{ q : List It × List (List PS) × Int × Int // q.2.1 = rowsOf q.1 ∧ bulks q.1 ≤ 2 ^ 30 },
    fun q => ⟨mk 49 [(3, .s (.p (.sl q.1.2.1 []))), (4, pint q.1.2.2.1), (5, pint q.1.2.2.2)], [.gone]⟩,
    fun q => bulks q.1.1, [.frz 3], _, ⟨([it], [[.c (.v (.bool a)), .c (.sl b1 b2), .c (.sl c1 c2)]], 0, 0), h0.symm, hb1⟩, rfl, ?_, ?_⟩
  · conv => cbv
    simp
  · rintro ⟨⟨L, R, tot, dep⟩, hq⟩
    have hR : R = rowsOf L := hq.1
    have hLb : bulks L ≤ 2 ^ 30 := hq.2
    have hRl : ar.len R = (L.length : Int) := by rw [lenIs har, hR, rowsOf_length]
    have hLl := bulks_len L
    have hnb := nexts_bulk L
    dsimp only
    conv => cbv
    refine ⟨fun h => ?_, fun h => ?_⟩
    · have g := cGt har (a := ar.len R) (b := 0) h
      conv => cbv
      refine ⟨fun h => ?_, fun h => ?_⟩
      · conv => cbv
        exact hkT
      · conv => cbv
        refine .inr ⟨{ r : Nat × Int × List (List PS) × Int // r.1 ≤ L.length ∧ r.2.1 = r.1 ∧ r.2.2.1 = rowsOf (nexts (L.take r.1)) },
          fun r => ⟨mk 49 [(3, .s (.p (.sl R []))), (4, pint r.1.2.2.2), (5, pint dep), (6, .s (.own 1)), (7, pint r.1.2.1)], [.gone, .arr r.1.2.2.1 27 3 56 true]⟩,
          fun r => L.length - r.1.1, [.slot 6 27], _, ⟨(0, 0, [], tot), Nat.zero_le _, rfl, rfl⟩, rfl, ?_, ?_⟩
        · conv => cbv
          simp
        · rintro ⟨⟨p, pi, Z, tt'⟩, hr⟩
          have hp : p ≤ L.length := hr.1
          have hpi : pi = (p : Int) := hr.2.1
          have hZ : Z = rowsOf (nexts (L.take p)) := hr.2.2
          dsimp only
          conv => cbv
          refine ⟨fun h => ?_, fun h => ?_⟩
          · have g' := cLt har (b := ar.len R) h
            have hlt : p < L.length := by omega
            obtain ⟨x, hx⟩ : ∃ x, L[p]? = some x := ⟨_, List.getElem?_eq_getElem hlt⟩
            obtain ⟨l', d', sd', its', ss'⟩ := x
            obtain ⟨D', hD'⟩ : ∃ D', D' = d'.map b8 := ⟨_, rfl⟩
            obtain ⟨I', hI'⟩ : ∃ I', I' = rowsOf its' := ⟨_, rfl⟩
            have hrow' : (It.mk l' d' sd' its' ss').row = [.c (.v (.bool l')), .c (.sl D' sd'), .c (.sl I' ss')] := by rw [hD', hI']; rfl
            have rx : R[pi.toNat]? = some [.c (.v (.bool l')), .c (.sl D' sd'), .c (.sl I' ss')] := by rw [hR, hpi, Int.toNat_natCast, rowsOf_get hx, hrow']
            have hZ2 : ar.app Z I' = rowsOf (nexts (L.take (p + 1))) := by
              rw [appIs har, hZ, take_succ_get hx, nexts_snoc, rowsOf_append, hI']; rfl
            have hl1 := bulks_len (nexts (L.take (p + 1)))
            have hl2 := nexts_take L (p + 1)
            have hl3 : Z.length + I'.length = (nexts (L.take (p + 1))).length := by
              have := congrArg List.length hZ2
              rw [appIs har, List.length_append, rowsOf_length] at this
              exact this
            have s1 : (Z.length + I'.length) * 56 ≤ 140737488355328 ∧ ∀ y ∈ I', rlen y = 3 := ⟨by omega, by rw [hI']; exact rows_len its'⟩
            have hi1 := iSucc har hpi (by omega)
            have hp0 : 0 ≤ pi := by omega
            conv => cbv
            refine ⟨by rw [har]; kernel_rfl, ?_⟩
            refine ⟨_, hp0, rx, rfl, ?_⟩
            conv => cbv
            refine ⟨_, hp0, rx, rfl, ?_⟩
            conv => cbv
            refine ⟨fun h => ?_, fun h => ?_⟩
            · conv => cbv
              exact hkT
            · conv => cbv
              refine ⟨_, hp0, rx, rfl, ?_⟩
              conv => cbv
              refine ⟨fun _ => s1, ?_⟩
              refine ⟨⟨(p + 1, ar.ib .add .i64 pi 1, ar.app Z I', ar.ib .add .i64 (ar.ib .add .i64 (ar.ib .add .i64 tt' (ar.len D')) (ar.len I')) 1), hlt, hi1, hZ2⟩, ?_, ?_⟩
              · dsimp only
                conv => cbv
                simp
              · show L.length - (p + 1) < L.length - p
                omega
          · have g' := cNlt har (b := ar.len R) h
            have hpe : p = L.length := by omega
            rw [hpe, List.take_length] at hZ
            have hlt : bulks (nexts L) < bulks L := by omega
            conv => cbv
            refine ⟨⟨(nexts L, Z, tt', ar.ib .add .i64 dep 1), hZ, Nat.le_trans (Nat.le_of_lt hlt) hLb⟩, ?_, ?_⟩
            · dsimp only
              conv => cbv
              simp
            · exact hlt
    · conv => cbv
      exact hkF

/-! ### Same -/
theorem strips_get {a b : List It} (h : strips a = strips b) {p : Nat} {x : It} (hx : a[p]? = some x) : ∃ y, b[p]? = some y ∧ x.strip = y.strip := by
  have h1 := congrArg (fun l => l[p]?) h
  simp only [strips_map, List.getElem?_map, hx, Option.map_some] at h1
  obtain ⟨y, hy, e⟩ := Option.map_eq_some_iff.1 h1.symm
  exact ⟨y, hy, e.symm⟩
theorem strips_len {a b : List It} (h : strips a = strips b) : a.length = b.length := by
  have := congrArg List.length h
  rw [strips_map, strips_map, List.length_map, List.length_map] at this
  exact this

def SameC (B : Nat) (args : List PR) (k : List PR → Prop) : Prop := ∃ a b : It, args = [.a a.row, .a b.row] ∧ a.strip = b.strip ∧ a.bulk ≤ B ∧ B ≤ 2 ^ 40 ∧ k [.s (.v (.bool true))]

theorem same_step (B : Nat) (ih : ∀ B', B' < B → Sound Try.prog 9 (SameC B')) : Sound Try.prog 9 (SameC B) := by
  refine Sound.of_body tt_ok ent_ok Try.func9 rfl ?_
  rintro ar har Γ hΓ args k ⟨⟨l, d, sd, its, ss⟩, ⟨l2, d2, sd2, its2, ss2⟩, hargs, hst, hb, hB, hk⟩
  simp only [It.strip, It.mk.injEq, true_and, and_true] at hst
  obtain ⟨rfl, rfl, hst⟩ := hst
  simp only [It.bulk] at hb
  have hlen := strips_len hst
  have hil := bulks_len its
  obtain ⟨D, hD⟩ : ∃ D, D = d.map b8 := ⟨_, rfl⟩
  obtain ⟨I, hI⟩ : ∃ I, I = rowsOf its := ⟨_, rfl⟩
  obtain ⟨J, hJ⟩ : ∃ I, I = rowsOf its2 := ⟨_, rfl⟩
  have hr1 : (It.mk l d sd its ss).row = [.c (.v (.bool l)), .c (.sl D sd), .c (.sl I ss)] := by rw [hD, hI]; rfl
  have hr2 : (It.mk l d sd2 its2 ss2).row = [.c (.v (.bool l)), .c (.sl D sd2), .c (.sl J ss2)] := by rw [hD, hJ]; rfl
  have hDl : ar.len D = (d.length : Int) := by rw [lenIs har, hD, List.length_map]
  have hIl : ar.len I = (its.length : Int) := by rw [lenIs har, hI, rowsOf_length]
  have hJl : ar.len J = (its.length : Int) := by rw [lenIs har, hJ, rowsOf_length, hlen]
  have t1 : ar.bb .neq l l = false := by rw [bbnIs har]; simp
  have t2 : ar.cb .neq (ar.len D) (ar.len D) = false := dNne har rfl
  have t3 : ar.cb .neq (ar.len I) (ar.len J) = false := dNne har (by rw [hIl, hJl])
  rw [hr1, hr2] at hargs
  subst hargs
  conv => cbv
  refine gonT t1 ?_
  conv => cbv
  refine gonT t2 ?_
  conv => cbv
  refine onF t3 ?_
  conv => cbv
  refine .inr ⟨{ q : Nat × Int // q.1 ≤ d.length ∧ q.2 = q.1 },
    fun q => ⟨mk 67 [(2, .s (.ptr 0 0)), (3, .s (.ptr 1 0)), (5, pint q.1.2)], [.box [.c (.p (.v (.bool l))), .c (.p (.sl D sd)), .c (.p (.sl I ss))], .box [.c (.p (.v (.bool l))), .c (.p (.sl D sd2)), .c (.p (.sl J ss2))]]⟩,
    fun q => d.length - q.1.1, [], _, ⟨(0, 0), Nat.zero_le _, rfl⟩, rfl, ?_, ?_⟩
  · conv => cbv
    simp
  · rintro ⟨⟨p, pi⟩, hq⟩
    have hp : p ≤ d.length := hq.1
    have hpi : pi = (p : Int) := hq.2
    dsimp only
    conv => cbv
    refine ⟨fun h => ?_, fun h => ?_⟩
    · have g := cLt har (b := ar.len D) h
      have hlt : p < d.length := by omega
      obtain ⟨x, hx⟩ : ∃ x, d[p]? = some x := ⟨_, List.getElem?_eq_getElem hlt⟩
      have rx : D[pi.toNat]? = some [.c (.v (.int .u8 x))] := by rw [hD, hpi, Int.toNat_natCast, List.getElem?_map, hx]; rfl
      have hp0 : 0 ≤ pi := by omega
      have hi1 := iSucc har hpi (by omega)
      have hne : ar.cb .neq x x = false := dNne har rfl
      conv => cbv
      refine ⟨by rw [har]; kernel_rfl, ?_⟩
      refine ⟨_, hp0, rx, rfl, ?_⟩
      conv => cbv
      refine ⟨_, hp0, rx, rfl, ?_⟩
      conv => cbv
      refine onF hne ?_
      conv => cbv
      refine ⟨⟨(p + 1, ar.ib .add .i64 pi 1), hlt, hi1⟩, ?_, ?_⟩
      · dsimp only
        conv => cbv
        simp
      · show d.length - (p + 1) < d.length - p
        omega
    · conv => cbv
      refine .inr ⟨{ q : Nat × Int // q.1 ≤ its.length ∧ q.2 = q.1 },
        fun q => ⟨mk 67 [(2, .s (.ptr 0 0)), (3, .s (.ptr 1 0)), (6, pint q.1.2)], [.box [.c (.p (.v (.bool l))), .c (.p (.sl D sd)), .c (.p (.sl I ss))], .box [.c (.p (.v (.bool l))), .c (.p (.sl D sd2)), .c (.p (.sl J ss2))]]⟩,
        fun q => its.length - q.1.1, [], _, ⟨(0, 0), Nat.zero_le _, rfl⟩, rfl, ?_, ?_⟩
      · conv => cbv
        simp
      · rintro ⟨⟨r, ri⟩, hr⟩
        have hrp : r ≤ its.length := hr.1
        have hri : ri = (r : Int) := hr.2
        dsimp only
        conv => cbv
        refine ⟨fun h => ?_, fun h => ?_⟩
        · have g := cLt har (b := ar.len I) h
          have hlt : r < its.length := by omega
          obtain ⟨x, hx⟩ : ∃ x, its[r]? = some x := ⟨_, List.getElem?_eq_getElem hlt⟩
          obtain ⟨y, hy, hxy⟩ := strips_get hst hx
          have hxb := bulk_get hx
          obtain ⟨xa, ⟨xb1, xb2⟩, ⟨xc1, xc2⟩, hX⟩ := row3 x
          obtain ⟨ya, ⟨yb1, yb2⟩, ⟨yc1, yc2⟩, hY⟩ := row3 y
          have rx : I[ri.toNat]? = some [.c (.v (.bool xa)), .c (.sl xb1 xb2), .c (.sl xc1 xc2)] := by rw [hI, hri, Int.toNat_natCast, rowsOf_get hx, hX]
          have ry : J[ri.toNat]? = some [.c (.v (.bool ya)), .c (.sl yb1 yb2), .c (.sl yc1 yc2)] := by rw [hJ, hri, Int.toNat_natCast, rowsOf_get hy, hY]
          have callS : ∀ (Γ : Ctx) (d' : Nat) (k : List PR → Prop), Γ = ctx Try.prog d' → k [.s (.v (.bool true))] → Γ.g 9 [.a [.c (.v (.bool xa)), .c (.sl xb1 xb2), .c (.sl xc1 xc2)], .a [.c (.v (.bool ya)), .c (.sl yb1 yb2), .c (.sl yc1 yc2)]] k := fun Γ d' k hΓ hk => call_by' hΓ (ih x.bulk (by omega)) ⟨x, y, by rw [hX, hY], hxy, Nat.le_refl _, by omega, hk⟩
          have hp0 : 0 ≤ ri := by omega
          have hi1 := iSucc har hri (by omega)
          have nT : ar.nb true = false := by rw [har]; rfl
          conv => cbv
          refine ⟨by rw [har]; kernel_rfl, ?_⟩
          refine ⟨_, hp0, rx, rfl, ?_⟩
          conv => cbv
          refine ⟨_, hp0, ry, rfl, ?_⟩
          conv => cbv
          refine callS _ _ _ hΓ ?_
          conv => cbv
          refine onF nT ?_
          conv => cbv
          refine ⟨⟨(r + 1, ar.ib .add .i64 ri 1), hlt, hi1⟩, ?_, ?_⟩
          · dsimp only
            conv => cbv
            simp
          · show its.length - (r + 1) < its.length - r
            omega
        · conv => cbv
          exact hk

theorem same_sound : ∀ B, Sound Try.prog 9 (SameC B) := fun B => by
  induction B using Nat.strongRecOn with
  | _ B ih => exact same_step B ih
end Go.Eng
