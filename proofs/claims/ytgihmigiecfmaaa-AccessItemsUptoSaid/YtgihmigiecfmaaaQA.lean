/-
  Items as own trees: rlp.clone, Text, twin, List, Number, Small answer new memory. Conditions: sizes up to 2^40.
  access.Item answers new memory. Condition: sizes up to 2^40.
  rlp.Number, Small, access.AuthItem answer new memory. Condition: sizes up to 2^40.
  waybilllaw14.spoil: an item that is given away is written over. Conditions: sizes up to 2^30.
-/
import Derived.Test.YtgihmigiecfmaaaRC
namespace Go.Eng
open Go Go.Proofs
set_option maxRecDepth 100000
set_option maxHeartbeats 4000000
set_option linter.unusedVariables false

/-- Own bytes. -/
abbrev oB (D : List (List PS)) : PV := .on D [] 5 1 1
/-- Own items. -/
abbrev oI (J : List (List PS)) : PV := .on J [] 27 3 56

mutual
def It.orow : It → List PS
  | .mk l d _ its _ => [.c (.v (.bool l)), .c (oB (d.map b8)), .c (oI (orowsOf its))]
def orowsOf : List It → List (List PS)
  | [] => []
  | x :: xs => x.orow :: orowsOf xs
end

theorem orowsOf_map : ∀ its : List It, orowsOf its = its.map It.orow
  | [] => rfl
  | x :: xs => by rw [orowsOf, List.map_cons, orowsOf_map xs]
theorem orowsOf_length (its : List It) : (orowsOf its).length = its.length := by rw [orowsOf_map, List.length_map]
theorem orowsOf_append (a b : List It) : orowsOf (a ++ b) = orowsOf a ++ orowsOf b := by rw [orowsOf_map, orowsOf_map, orowsOf_map, List.map_append]
theorem orowsOf_get {its : List It} {p : Nat} {x : It} (h : its[p]? = some x) : (orowsOf its)[p]? = some x.orow := by
  rw [orowsOf_map, List.getElem?_map, h]; rfl
theorem It.orow_len : ∀ x : It, rlen x.orow = 3
  | .mk _ _ _ _ _ => by simp [It.orow, rlen, PS.len]

/-! ### Nothing of another's -/
theorem shutX_b8 : ∀ d : List Int, shutX (d.map b8)
  | [] => trivial
  | x :: d => ⟨⟨trivial, trivial⟩, shutX_b8 d⟩
mutual
theorem orow_shut : ∀ x : It, shutL x.orow
  | .mk l d _ its _ => ⟨trivial, ⟨shutX_b8 d, trivial⟩, ⟨orows_shut its, trivial⟩, trivial⟩
theorem orows_shut : ∀ its : List It, shutX (orowsOf its)
  | [] => trivial
  | x :: xs => ⟨orow_shut x, orows_shut xs⟩
end

/-! ### To him who reads -/
theorem frzX_b8 : ∀ d : List Int, frzX (d.map b8) = d.map b8
  | [] => rfl
  | x :: d => by rw [List.map_cons, frzX, frzX_b8 d]; rfl
mutual
theorem orow_frz : ∀ x : It, frzL x.orow = x.strip.row
  | .mk l d sd its ss => by
    show [PS.c (.v (.bool l)), .c (.sl (frzX (d.map b8)) []), .c (.sl (frzX (orowsOf its)) [])] = _
    rw [frzX_b8, orows_frz its]; rfl
theorem orows_frz : ∀ its : List It, frzX (orowsOf its) = rowsOf (strips its)
  | [] => rfl
  | x :: xs => by
    show frzL x.orow :: frzX (orowsOf xs) = _
    rw [orow_frz x, orows_frz xs]; rfl
end
section
variable {ar : Ar}
theorem frz0 (har : ar = arS) : ar.frz [] = [] := by rw [har]; rfl
theorem frzB (har : ar = arS) (d : List Int) : ar.frz (d.map b8) = d.map b8 := by rw [har]; exact frzX_b8 d
theorem frzO (har : ar = arS) (its : List It) : ar.frz (orowsOf its) = rowsOf (strips its) := by rw [har]; exact orows_frz its
end

theorem clone_own : Sound Try.prog 41 fun args k => ∃ (d : List Int) (sd : List (List PS)), args = [.s (.sl (d.map b8) sd)] ∧ d.length ≤ 2 ^ 40 ∧ k [.s (oB (d.map b8))] := by
  refine Sound.of_bodyT [] 0 tt_ok ent_ok Try.func41 rfl ?_
  rintro ar har Γ hΓ args k ⟨d, sd, rfl, hl, hk⟩
  obtain ⟨D, hD⟩ : ∃ D, D = d.map b8 := ⟨_, rfl⟩
  have hD1 : ∀ y ∈ D, rlen y = 1 := by rw [hD]; exact b8_all d
  have hD2 : D.length = d.length := by rw [hD, List.length_map]
  have hap : ar.app [] D = D := by rw [appIs har]; rfl
  rw [← hD] at hk ⊢
  rw [← hap] at hk
  conv => cbv
  refine ⟨fun _ => ⟨?_, hD1⟩, [.s (oB (ar.app [] D))], ⟨⟨rfl, rfl, rfl, rfl, rfl⟩, trivial⟩, hk⟩
  show (0 + D.length) * 1 ≤ 140737488355328
  omega

/-- A text's own row. -/
def otx (D : List (List PS)) : List PS := [.c (.v (.bool false)), .c (oB D), .c (oI [])]
/-- A list's own row. -/
def olx (J : List (List PS)) : List PS := [.c (.v (.bool true)), .c (oB []), .c (oI J)]

theorem text_own : Sound Try.prog 25 fun args k => ∃ (d : List Int) (sd : List (List PS)), args = [.s (.sl (d.map b8) sd)] ∧ d.length ≤ 2 ^ 40 ∧ k [.ao (otx (d.map b8))] := by
  refine Sound.of_bodyT [] 0 tt_ok ent_ok Try.func25 rfl ?_
  rintro ar har Γ hΓ args k ⟨d, sd, rfl, hl, hk⟩
  obtain ⟨D, hD⟩ : ∃ D, D = d.map b8 := ⟨_, rfl⟩
  rw [← hD] at hk
  rw [← hD]
  conv => cbv
  refine call_by hΓ clone_own ⟨d, sd, by rw [hD], hl, ?_⟩
  rw [← hD]
  conv => cbv
  exact ⟨[.ao (otx D)], ⟨⟨rfl, rfl, ⟨rfl, rfl, by decide⟩, trivial⟩, trivial⟩, hk⟩

def OTwinC (B : Nat) (args : List PR) (k : List PR → Prop) : Prop := ∃ (its : List It) (ss : List (List PS)), args = [.s (.sl (rowsOf its) ss)] ∧ bulks its ≤ B ∧ B ≤ 2 ^ 40 ∧ k [.s (oI (orowsOf its))]

theorem otwin_step (B : Nat) (ih : ∀ B', B' < B → Sound Try.prog 42 (OTwinC B')) : Sound Try.prog 42 (OTwinC B) := by
  refine Sound.of_bodyT [] 0 tt_ok ent_ok Try.func42 rfl ?_
  rintro ar har Γ hΓ args k ⟨its, ss, hargs, hb, hB, hk⟩
  obtain ⟨I, hI⟩ : ∃ I, I = rowsOf its := ⟨_, rfl⟩
  have hIl : ar.len I = (its.length : Int) := by rw [lenIs har, hI, rowsOf_length]
  have hil := bulks_len its
  rw [← hI] at hargs
  subst hargs
  conv => cbv
  refine .inr ⟨{ q : Nat × Int × List (List PS) // q.1 ≤ its.length ∧ q.2.1 = q.1 ∧ q.2.2 = orowsOf (its.take q.1) },
    fun q => ⟨mk 26 [(2, .s .nil), (3, .s (.own 0)), (6, .s (.p (.sl I ss))), (7, pint (ar.len I)), (8, pint q.1.2.1)], [.tre q.1.2.2 [] 27 3 56 none]⟩,
    fun q => its.length - q.1.1, [.ntre 3 27], _, ⟨(0, 0, []), Nat.zero_le _, rfl, rfl⟩, rfl, ?_, ?_⟩
  · conv => cbv
    simp
  · rintro ⟨⟨p, pi, Z⟩, hq⟩
    have hp : p ≤ its.length := hq.1
    have hpi : pi = (p : Int) := hq.2.1
    have hZ : Z = orowsOf (its.take p) := hq.2.2
    dsimp only
    conv => cbv
    refine ⟨fun h => ?_, fun h => ?_⟩
    · have g := cLt har (b := ar.len I) h
      have hlt : p < its.length := by omega
      obtain ⟨x, hx⟩ : ∃ x, its[p]? = some x := ⟨_, List.getElem?_eq_getElem hlt⟩
      have hxb := bulk_get hx
      obtain ⟨l', d', sd', its', ss'⟩ := x
      have hxb2 : 1 + d'.length + bulks its' ≤ bulks its := hxb
      obtain ⟨D', hD'⟩ : ∃ D', D' = d'.map b8 := ⟨_, rfl⟩
      obtain ⟨I', hI'⟩ : ∃ I', I' = rowsOf its' := ⟨_, rfl⟩
      obtain ⟨I2, hI2⟩ : ∃ I', I' = orowsOf its' := ⟨_, rfl⟩
      have hrow' : (It.mk l' d' sd' its' ss').row = [.c (.v (.bool l')), .c (.sl D' sd'), .c (.sl I' ss')] := by rw [hD', hI']; rfl
      have rx : I[pi.toNat]? = some [.c (.v (.bool l')), .c (.sl D' sd'), .c (.sl I' ss')] := by rw [hI, hpi, Int.toNat_natCast, rowsOf_get hx, hrow']
      have hZ2 : ar.app Z [[.c (.v (.bool l')), .c (oB D'), .c (oI I2)]] = orowsOf (its.take (p + 1)) := by
        rw [appIs har, hZ, take_succ_get hx, orowsOf_append, hD', hI2]; rfl
      have hZl : Z.length = p := by rw [hZ, orowsOf_length, List.length_take]; omega
      have callC : ∀ (Γ : Ctx) (d'' : Nat) (k : List PR → Prop), Γ = ctx Try.prog d'' → k [.s (oB D')] → Γ.g 41 [.s (.sl D' sd')] k := fun Γ d'' k hΓ hk => call_by' hΓ clone_own ⟨d', sd', by rw [hD'], by omega, by rw [← hD']; exact hk⟩
      have callT : ∀ (Γ : Ctx) (d'' : Nat) (k : List PR → Prop), Γ = ctx Try.prog d'' → k [.s (oI I2)] → Γ.g 42 [.s (.sl I' ss')] k := fun Γ d'' k hΓ hk => call_by' hΓ (ih (bulks its') (by omega)) ⟨its', ss', by rw [hI'], Nat.le_refl _, by omega, by rw [← hI2]; exact hk⟩
      have s1 : 0 < 0 + 1 ∧ (Z.length + 1) * 56 ≤ 140737488355328 ∧ ∀ y ∈ [[PS.c (.v (.bool l')), .c (oB D'), .c (oI I2)]], rlen y = 3 := ⟨by omega, by omega, by simp [rlen, PS.len]⟩
      conv => cbv
      refine ⟨_, by omega, rx, rfl, ?_⟩
      conv => cbv
      refine ⟨by rw [har]; kernel_rfl, ?_⟩
      refine callC _ _ _ hΓ ?_
      conv => cbv
      refine callT _ _ _ hΓ ?_
      conv => cbv
      refine ⟨fun _ => s1, ?_⟩
      refine ⟨⟨(p + 1, ar.ib .add .i64 pi 1, ar.app Z [[.c (.v (.bool l')), .c (oB D'), .c (oI I2)]]), hlt, iSucc har hpi (by omega), hZ2⟩, ?_, ?_⟩
      · dsimp only
        conv => cbv
        simp
      · show its.length - (p + 1) < its.length - p
        omega
    · have g := cNlt har (b := ar.len I) h
      have hge : p = its.length := by omega
      rw [hge, List.take_length] at hZ
      rw [← hZ] at hk
      conv => cbv
      exact ⟨[.s (oI Z)], ⟨rfl, trivial⟩, hk⟩

theorem otwin_sound : ∀ B, Sound Try.prog 42 (OTwinC B) := fun B => by
  induction B using Nat.strongRecOn with
  | _ B ih => exact otwin_step B ih

theorem list_own : Sound Try.prog 26 fun args k => ∃ (its : List It) (ss : List (List PS)), args = [.s (.sl (rowsOf its) ss)] ∧ bulks its ≤ 2 ^ 40 ∧ k [.ao (olx (orowsOf its))] := by
  refine Sound.of_bodyT [] 0 tt_ok ent_ok Try.func26 rfl ?_
  rintro ar har Γ hΓ args k ⟨its, ss, hargs, hb, hk⟩
  obtain ⟨I, hI⟩ : ∃ I, I = rowsOf its := ⟨_, rfl⟩
  obtain ⟨J, hJ⟩ : ∃ J, J = orowsOf its := ⟨_, rfl⟩
  rw [← hJ] at hk
  have callT : ∀ (Γ : Ctx) (d'' : Nat) (k : List PR → Prop) (R : Prop), Γ = ctx Try.prog d'' → k [.s (oI J)] → Γ.g 42 [.s (.sl I ss)] k ∨ R := fun Γ d'' k R hΓ hk => call_by hΓ (otwin_sound (2 ^ 40)) ⟨its, ss, by rw [hI], hb, by omega, by rw [← hJ]; exact hk⟩
  rw [← hI] at hargs
  subst hargs
  conv => cbv
  refine callT _ _ _ _ hΓ ?_
  conv => cbv
  exact ⟨[.ao (olx J)], ⟨⟨rfl, ⟨rfl, rfl, by decide⟩, rfl, trivial⟩, trivial⟩, hk⟩

theorem loosV_refl (x : PV) : loosV x x := by cases x <;> simp [loosV]
theorem loosL_refl : ∀ l : List PS, loosL l l
  | [] => trivial
  | .c x :: l => ⟨loosV_refl x, loosL_refl l⟩
  | .r _ _ :: l => ⟨rfl, rfl, loosL_refl l⟩
theorem loosR_refl : ∀ r : PR, loosR r r
  | .s x => loosV_refl x
  | .a _ => rfl
  | .ao l => loosL_refl l
theorem loosRs_refl : ∀ rs : List PR, loosRs rs rs
  | [] => trivial
  | r :: l => ⟨loosR_refl r, loosRs_refl l⟩

theorem orow3 : ∀ it : It, ∃ l D J, it.orow = [.c (.v (.bool l)), .c (oB D), .c (oI J)]
  | .mk l d _ its _ => ⟨l, d.map b8, orowsOf its, rfl⟩

end Go.Eng
namespace Go.Eng
open Go Go.Proofs
set_option maxRecDepth 100000
set_option maxHeartbeats 4000000
set_option linter.unusedVariables false

theorem olx_shut (its : List It) : shutRs [.ao (olx (orowsOf its))] := ⟨⟨trivial, ⟨trivial, trivial⟩, ⟨orows_shut its, trivial⟩, trivial⟩, trivial⟩

theorem accItem_own : Sound Try.prog 7 fun args k => ∃ (es : List Ent) (s : List (List PS)), args = [.s (.sl (es.map Ent.row) s)] ∧ (∀ e ∈ es, e.a.length = 20 ∧ ∀ w ∈ e.ks, w.length = 32) ∧ bulks (esIts es) < 2 ^ 40 ∧
    k [.ao (if errOf (It.lst (esIts es)) = 0 then It.lst (esIts es) else .zero).orow, .s (.v (.int .i64 (if errOf (It.lst (esIts es)) = 0 then 0 else 2)))] := by
  refine Sound.of_bodyT [] 1 tt_ok ent_ok Try.func7 rfl ?_
  rintro ar har Γ hΓ args k ⟨es, s, hargs, hlen, hb, hk⟩
  obtain ⟨X, hX⟩ : ∃ X, X = es.map Ent.row := ⟨_, rfl⟩
  have hXl : ar.len X = (es.length : Int) := by rw [lenIs har, hX, List.length_map]
  have callX : ∀ (W s : List (List PS)) (w : List Int) (C : List (List PS)) (Γ : Ctx) (d' : Nat) (k : List PR → Prop) (R : Prop), Γ = ctx Try.prog d' → C = W → W = w.map b8 → w.length ≤ 2 ^ 40 → k [.ao (otx W)] → Γ.g 25 [.s (.sl C s)] k ∨ R := fun W s w C Γ d' k R hΓ hc hw hl hk => call_by hΓ text_own ⟨w, s, by rw [hc, hw], hl, by rw [hw] at hk; exact hk⟩
  have callL : ∀ (J C s : List (List PS)) (its : List It) (Γ : Ctx) (d' : Nat) (k : List PR → Prop) (R : Prop), Γ = ctx Try.prog d' → C = rowsOf its → J = orowsOf its → bulks its ≤ 2 ^ 40 → k [.ao (olx J)] → Γ.g 26 [.s (.sl C s)] (fun rs => shutRs rs ∧ k rs) ∨ R := fun J C s its Γ d' k R hΓ hC hJ hl hk => call_by hΓ list_own ⟨its, s, by rw [hC], hl, by rw [← hJ]; exact ⟨by rw [hJ]; exact olx_shut its, hk⟩⟩
  have hel : es.length ≤ bulks (esIts es) := by
    have h1 := bulks_len (esIts es)
    have h2 : (esIts es).length = es.length := List.length_map ..
    omega
  rw [← hX] at hargs
  subst hargs
  conv => cbv
  refine .inr ⟨{ q : Nat × Int × List (List PS) // q.1 ≤ es.length ∧ q.2.1 = q.1 ∧ q.2.2 = orowsOf (esIts (es.take q.1)) },
    fun q => ⟨mk 45 [(2, .s (.ptr 0 0)), (3, .s (.lit .i64 0)), (4, .s (.own 1)), (10, .s (.p (.sl X s))), (11, pint (ar.len X)), (12, pint q.1.2.1)], [.box [.c (.bl false), .c .nil, .c .nil], .tre q.1.2.2 [] 27 3 56 none]⟩,
    fun q => es.length - q.1.1, [.ntre 4 27], _, ⟨(0, 0, []), Nat.zero_le _, rfl, rfl⟩, rfl, ?_, ?_⟩
  · conv => cbv
    simp
  · rintro ⟨⟨p, pi, Z⟩, hq⟩
    have hp : p ≤ es.length := hq.1
    have hpi : pi = (p : Int) := hq.2.1
    have hZ : Z = orowsOf (esIts (es.take p)) := hq.2.2
    dsimp only
    conv => cbv
    refine ⟨fun h => ?_, fun h => ?_⟩
    · have g := cLt har (b := ar.len X) h
      have hlt : p < es.length := by omega
      obtain ⟨e, hx⟩ : ∃ e, es[p]? = some e := ⟨_, List.getElem?_eq_getElem hlt⟩
      obtain ⟨ea, ek, es1⟩ := e
      obtain ⟨xv, hxv⟩ : ∃ xv, xv = u8s ea := ⟨_, rfl⟩
      obtain ⟨xl, hxl⟩ : ∃ xl, xl = ek.map key := ⟨_, rfl⟩
      have rx : X[pi.toNat]? = some [.r 20 xv, .c (.sl xl es1)] := by rw [hX, hpi]; simp [hx, Ent.row, hxv, hxl]
      conv => cbv
      refine ⟨_, by omega, rx, rfl, ?_⟩
      conv => cbv
      have hE := hlen _ (List.mem_of_getElem? hx)
      have hE1 : ea.length = 20 := hE.1
      have hE2 : ∀ w ∈ ek, w.length = 32 := hE.2
      have hEb : (entIt ea ek).bulk ≤ bulks (esIts es) := bulk_get (its := esIts es) (p := p) (by simp only [esIts, List.getElem?_map, hx]; rfl)
      rw [ent_bulk] at hEb
      have hkb : ek.length ≤ ksB ek := by have := bulks_len (ksIts ek); rw [ksIts, List.length_map] at this; exact this
      have hxll : ar.len xl = (ek.length : Int) := by rw [lenIs har, hxl, List.length_map]
      refine .inr ⟨{ q : Nat × Int × List (List PS) // q.1 ≤ ek.length ∧ q.2.1 = q.1 ∧ q.2.2 = orowsOf (ksIts (ek.take q.1)) },
        fun q => ⟨mk 45 [(2, .s (.ptr 0 0)), (3, .s (.lit .i64 0)), (4, .s (.own 1)), (6, .s (.ptr 2 0)), (7, .s (.own 3)), (10, .s (.p (.sl X s))), (11, pint (ar.len X)), (12, pint pi), (17, .s (.p (.sl xl es1))), (18, pint (ar.len xl)), (19, pint q.1.2.1)], [.box [.c (.bl false), .c .nil, .c .nil], .tre Z [] 27 3 56 none, .box [.r 20 xv, .c (.p (.sl xl es1))], .tre q.1.2.2 [] 27 3 56 none]⟩,
        fun q => ek.length - q.1.1, [.ntre 7 27], _, ⟨(0, 0, []), Nat.zero_le _, rfl, rfl⟩, rfl, ?_, ?_⟩
      · conv => cbv
        simp
      · rintro ⟨⟨r, ri, Y⟩, hr⟩
        have hrp : r ≤ ek.length := hr.1
        have hri : ri = (r : Int) := hr.2.1
        have hY : Y = orowsOf (ksIts (ek.take r)) := hr.2.2
        dsimp only
        conv => cbv
        refine ⟨fun h => ?_, fun h => ?_⟩
        · have g' := cLt har (b := ar.len xl) h
          have hrl : r < ek.length := by omega
          obtain ⟨w, hw⟩ : ∃ w, ek[r]? = some w := ⟨_, List.getElem?_eq_getElem hrl⟩
          have hw32 : w.length = 32 := hE2 w (List.mem_of_getElem? hw)
          obtain ⟨wv, hwv⟩ : ∃ wv, wv = u8s w := ⟨_, rfl⟩
          obtain ⟨W, hW⟩ : ∃ W, W = w.map b8 := ⟨_, rfl⟩
          have hcw : ar.cells wv = W := by rw [hwv, hW, bytes_cells ar har]
          have rw1 : xl[ri.toNat]? = some [.r 32 wv] := by rw [hxl, hri]; simp [hw, key, hwv]
          conv => cbv
          refine ⟨_, by omega, rw1, rfl, ?_⟩
          conv => cbv
          refine callX W [] w _ _ _ _ _ hΓ hcw hW (by omega) ?_
          conv => cbv
          have s1 : 0 < 1 ∧ (Y.length + 1) * 56 ≤ 140737488355328 ∧ ∀ y ∈ [otx W], rlen y = 3 := ⟨by omega, by rw [hY, orowsOf_length, ksIts, List.length_map, List.length_take]; omega, by simp [otx, rlen, PS.len]⟩
          have hY2 : ar.app Y [otx W] = orowsOf (ksIts (ek.take (r + 1))) := by
            rw [appIs har, hY, take_succ_get hw, ksIts, ksIts, List.map_append, orowsOf_append, hW]; rfl
          refine ⟨fun _ => s1, ?_⟩
          refine ⟨⟨(r + 1, ar.ib .add .i64 ri 1, ar.app Y [otx W]), hrl, iSucc har hri (by omega), hY2⟩, ?_, ?_⟩
          · dsimp only
            conv => cbv
            simp
          · show ek.length - (r + 1) < ek.length - r
            omega
        · have g' := cNlt har (b := ar.len xl) h
          have hre : r = ek.length := by omega
          rw [hre, List.take_length] at hY
          obtain ⟨V, hV⟩ : ∃ W, W = ea.map b8 := ⟨_, rfl⟩
          have hcv : ar.cells xv = V := by rw [hxv, hV, bytes_cells ar har]
          have hG4 : bulks [It.txt ea, It.lst (ksIts ek)] ≤ 2 ^ 40 := by
            have e := ent_bulk ea ek
            rw [entIt, It.lst, It.bulk, List.length_nil] at e
            omega
          have f0 := frz0 har
          have fY : ar.frz Y = rowsOf (ksIts ek) := by rw [hY, frzO har, strips_ks]
          have fV : ar.frz V = V := by rw [hV, frzB har]
          obtain ⟨G, hG⟩ : ∃ G, G = orowsOf [It.txt ea, It.lst (ksIts ek)] := ⟨_, rfl⟩
          have hG3 : [[PS.c (.v (.bool false)), .c (.sl (ar.frz V) (ar.frz [])), .c (.sl (ar.frz []) (ar.frz []))], [.c (.v (.bool true)), .c (.sl (ar.frz []) (ar.frz [])), .c (.sl (ar.frz (orowsOf (ksIts ek))) (ar.frz []))]] = rowsOf [It.txt ea, It.lst (ksIts ek)] := by
            rw [f0, fV, frzO har, strips_ks, hV]; rfl
          have s1 : 0 < 1 ∧ (Z.length + 1) * 56 ≤ 140737488355328 ∧ ∀ y ∈ [olx G], rlen y = 3 := ⟨by omega, by
            rw [hZ, orowsOf_length, esIts, List.length_map, List.length_take]
            omega, by simp [olx, rlen, PS.len]⟩
          have hZ2 : ar.app Z [olx G] = orowsOf (esIts (es.take (p + 1))) := by
            rw [appIs har, hZ, take_succ_get hx, esIts, esIts, List.map_append, orowsOf_append, hG]; rfl
          conv => cbv
          refine callX V [] ea _ _ _ _ _ hΓ hcv hV (by omega) ?_
          conv => cbv
          refine callL Y _ _ (ksIts ek) _ _ _ _ hΓ fY hY (by show ksB ek ≤ _; omega) ?_
          conv => cbv
          refine callL G _ _ [It.txt ea, It.lst (ksIts ek)] _ _ _ _ hΓ (by rw [hY]; exact hG3) hG hG4 ?_
          conv => cbv
          refine ⟨fun _ => s1, ?_⟩
          refine ⟨⟨(p + 1, ar.ib .add .i64 pi 1, ar.app Z [olx G]), hlt, iSucc har hpi (by omega), hZ2⟩, ?_, ?_⟩
          · dsimp only
            conv => cbv
            simp
          · show es.length - (p + 1) < es.length - p
            omega
    · have g := cNlt har (b := ar.len X) h
      have hpe : p = es.length := by omega
      rw [hpe, List.take_length] at hZ
      have fZ : ar.frz Z = rowsOf (esIts es) := by rw [hZ, frzO har, strips_es]
      have f0 := frz0 har
      obtain ⟨er, her⟩ : ∃ z : Int, z = (errOf (It.lst (esIts es)) : Nat) := ⟨_, rfl⟩
      have callS : ∀ (Γ : Ctx) (d' : Nat) (k : List PR → Prop) (R : Prop), Γ = ctx Try.prog d' → (∀ z, k [.s (.v (.int .i64 z)), .s (.v (.int .i64 er))]) → Γ.g 43 [.a [.c (.v (.bool true)), .c (.sl (ar.frz []) (ar.frz [])), .c (.sl (ar.frz Z) (ar.frz []))]] k ∨ R := fun Γ d' k R hΓ hk => call_by hΓ rsize_sound ⟨It.lst (esIts es), by rw [fZ, f0]; rfl, by simp only [It.lst, It.bulk, List.length_nil]; omega, by rw [← her]; exact hk _⟩
      have hgood : er = 0 → k [.ao (olx Z), .s (.v (.int .i64 0))] := fun h => by
        have h2 : errOf (It.lst (esIts es)) = 0 := by omega
        rw [if_pos h2, if_pos h2] at hk
        rw [hZ]; exact hk
      have hbad : er ≠ 0 → k [.ao (otx []), .s (.v (.int .i64 2))] := fun h => by
        have h2 : ¬ errOf (It.lst (esIts es)) = 0 := by omega
        rw [if_neg h2, if_neg h2] at hk
        exact hk
      clear hk
      conv => cbv
      refine callL Z _ _ (esIts es) _ _ _ _ hΓ fZ hZ (by omega) ?_
      conv => cbv
      refine call_in har hΓ Try.func27 rfl fun Γ1 hΓ1 vs1 => ?_
      conv => cbv
      refine callS _ _ _ _ hΓ1 fun z => ?_
      conv => cbv
      refine ⟨fun h => ?_, fun h => ?_⟩
      · have g2 := cNe har (a := er) (b := 0) h
        have hk := hbad g2
        conv => cbv
        exact ⟨[.ao (otx []), .s (.v (.int .i64 2))], ⟨⟨rfl, ⟨rfl, rfl, by decide⟩, ⟨rfl, rfl, by decide⟩, trivial⟩, rfl, trivial⟩, hk⟩
      · have g2 := cNne har (a := er) (b := 0) h
        have hk := hgood g2
        conv => cbv
        exact ⟨[.ao (olx Z), .s (.v (.int .i64 0))], ⟨⟨rfl, rfl, rfl, trivial⟩, rfl, trivial⟩, hk⟩
end Go.Eng
namespace Go.Eng
open Go Go.Proofs
set_option maxRecDepth 100000
set_option maxHeartbeats 4000000
set_option linter.unusedVariables false

theorem u256Bytes_own : Sound Try.prog 45 fun args k => ∃ n : Nat, args = [pw n] ∧ n < M256 ∧ k [.s (oB ((be n (blen n)).map b8))] := by
  refine Sound.of_bodyT [] 0 tt_ok ent_ok Try.func45 rfl ?_
  rintro ar har Γ hΓ args k ⟨n, hargs, hn, hk⟩
  obtain ⟨x, hx⟩ : ∃ x, x = w4 n := ⟨_, rfl⟩
  obtain ⟨bs, hbs⟩ : ∃ bs, bs = u8s (be n 32) := ⟨_, rfl⟩
  obtain ⟨b, hb⟩ : ∃ b : Int, b = (bl n : Int) := ⟨_, rfl⟩
  have hput : ∀ (Γ : Ctx) (d' : Nat) (k : List PR → Prop) (R : Prop), Γ = ctx Try.prog d' → k [.a [.r 32 bs]] → Γ.g 60 [.a [.r 4 x]] k ∨ R := fun Γ d' k R hΓ hk => call_by hΓ u256Put_sound ⟨n, by unfold pw; rw [hx], by rw [← hbs]; exact hk⟩
  have hlen : ∀ (Γ : Ctx) (d' : Nat) (k : List PR → Prop) (R : Prop), Γ = ctx Try.prog d' → k [.s (.v (.int .i64 b))] → Γ.g 61 [.a [.r 4 x]] k ∨ R := fun Γ d' k R hΓ hk => call_by hΓ u256Len_sound ⟨n, by unfold pw; rw [hx], hn, by rw [← hb]; exact hk⟩
  have hble := bl_le256 hn
  have hbl := blen_le hn
  have e0 : ar.ib .add .i64 b 7 = ((bl n + 7 : Nat) : Int) := by rw [iAdd har (by omega)]; omega
  have e1 : ar.ib .quo .i64 (ar.ib .add .i64 b 7) 8 = ((blen n : Nat) : Int) := by rw [e0]; exact iQuo har (b := 8) (by omega)
  have e2 : ar.ib .sub .i64 32 (ar.ib .quo .i64 (ar.ib .add .i64 b 7) 8) = ((32 - blen n : Nat) : Int) := by rw [e1, iSub har (by omega)]; omega
  have hcells : ar.cells bs = (be n 32).map b8 := by rw [cellsIs har, hbs, cells_b8]
  have hcl : (ar.cells bs).length = 32 := by rw [hcells, List.length_map, be_length]
  have hfrm : ar.frm (ar.cells bs) (ar.nat (ar.ib .sub .i64 32 (ar.ib .quo .i64 (ar.ib .add .i64 b 7) 8))) = (be n (blen n)).map b8 := by
    rw [natOf har e2, frmIs har, hcells, ← List.map_drop]
    have := be_drop n (32 - blen n) (blen n)
    rw [show 32 - blen n + blen n = 32 by omega] at this
    rw [this]
  have hres : ar.app [] (ar.frm (ar.cells bs) (ar.nat (ar.ib .sub .i64 32 (ar.ib .quo .i64 (ar.ib .add .i64 b 7) 8)))) = (be n (blen n)).map b8 := by rw [appIs har, hfrm]; rfl
  have s1 : 0 ≤ ar.ib .sub .i64 32 (ar.ib .quo .i64 (ar.ib .add .i64 b 7) 8) ∧ ar.ib .sub .i64 32 (ar.ib .quo .i64 (ar.ib .add .i64 b 7) 8) ≤ (((ar.cells bs).length : Nat) : Int) ∧ (∀ z ∈ ar.cells bs, rlen z = 1) ∧ ∀ z ∈ ([] : List (List PS)), rlen z = 1 :=
    ⟨by rw [e2]; omega, by rw [e2, hcl]; omega, by rw [hcells]; exact b8_all _, by simp⟩
  have s2 : (0 + (ar.frm (ar.cells bs) (ar.nat (ar.ib .sub .i64 32 (ar.ib .quo .i64 (ar.ib .add .i64 b 7) 8)))).length) * 1 ≤ 140737488355328 ∧ ∀ y ∈ ar.frm (ar.cells bs) (ar.nat (ar.ib .sub .i64 32 (ar.ib .quo .i64 (ar.ib .add .i64 b 7) 8))), rlen y = 1 := by
    rw [hfrm]
    exact ⟨by rw [List.length_map, be_length]; omega, b8_all _⟩
  rw [← hres] at hk
  unfold pw at hargs
  rw [← hx] at hargs
  subst hargs
  conv => cbv
  refine hput _ _ _ _ hΓ ?_
  conv => cbv
  refine hlen _ _ _ _ hΓ ?_
  conv => cbv
  exact ⟨fun _ => s1, fun _ => s2, [.s (oB _)], ⟨⟨rfl, rfl, rfl, rfl, rfl⟩, trivial⟩, hk⟩

theorem rNumber_own : Sound Try.prog 30 fun args k => ∃ n : Nat, args = [pw n] ∧ n < M256 ∧ k [.ao (otx ((numB n).map b8))] := by
  refine Sound.of_bodyT [] 0 tt_ok ent_ok Try.func30 rfl ?_
  rintro ar har Γ hΓ args k ⟨n, hargs, hn, hk⟩
  obtain ⟨x, hx⟩ : ∃ x, x = w4 n := ⟨_, rfl⟩
  obtain ⟨D, hD⟩ : ∃ D, D = (numB n).map b8 := ⟨_, rfl⟩
  have hk : k [.ao (otx D)] := by rw [hD]; exact hk
  have hcall : ∀ (Γ : Ctx) (d' : Nat) (k : List PR → Prop) (R : Prop), Γ = ctx Try.prog d' → k [.s (oB D)] → Γ.g 45 [.a [.r 4 x]] k ∨ R := fun Γ d' k R hΓ hk => call_by hΓ u256Bytes_own ⟨n, by rw [hx], hn, by rw [hD] at hk; exact hk⟩
  unfold pw at hargs
  rw [← hx] at hargs
  subst hargs
  conv => cbv
  refine hcall _ _ _ _ hΓ ?_
  conv => cbv
  exact ⟨[.ao (otx D)], ⟨⟨rfl, rfl, ⟨rfl, rfl, by decide⟩, trivial⟩, trivial⟩, hk⟩

theorem rSmall_own : Sound Try.prog 31 fun args k => ∃ n : Nat, args = [.s (.v (.int .u64 n))] ∧ n < 18446744073709551616 ∧ k [.ao (otx ((numB n).map b8))] := by
  refine Sound.of_bodyT [] 0 tt_ok ent_ok Try.func31 rfl ?_
  rintro ar har Γ hΓ args k ⟨n, hargs, hn, hk⟩
  obtain ⟨z, hz⟩ : ∃ z : Int, z = (n : Int) := ⟨_, rfl⟩
  obtain ⟨x, hx⟩ : ∃ x, x = w4 n := ⟨_, rfl⟩
  obtain ⟨D, hD⟩ : ∃ D, D = (numB n).map b8 := ⟨_, rfl⟩
  have hk : k [.ao (otx D)] := by rw [hD]; exact hk
  have hcall1 : ∀ (Γ : Ctx) (d' : Nat) (k : List PR → Prop) (R : Prop), Γ = ctx Try.prog d' → k [.a [.r 4 x]] → Γ.g 46 [.s (.v (.int .u64 z))] k ∨ R := fun Γ d' k R hΓ hk => call_by hΓ u256From_sound ⟨n, by rw [hz], hn, by unfold pw; rw [← hx]; exact hk⟩
  have hcall2 : ∀ (Γ : Ctx) (d' : Nat) (k : List PR → Prop) (R : Prop), Γ = ctx Try.prog d' → k [.ao (otx D)] → Γ.g 30 [.a [.r 4 x]] k ∨ R := fun Γ d' k R hΓ hk => call_by hΓ rNumber_own ⟨n, by unfold pw; rw [hx], by unfold M256; omega, by rw [hD] at hk; exact hk⟩
  rw [← hz] at hargs
  subst hargs
  conv => cbv
  refine hcall1 _ _ _ _ hΓ ?_
  conv => cbv
  refine hcall2 _ _ _ _ hΓ ?_
  conv => cbv
  exact ⟨[.ao (otx D)], ⟨⟨rfl, rfl, rfl, trivial⟩, trivial⟩, hk⟩

def authItO (us : List Au) : List PR := if wideU us = true then [.ao It.zero.orow, .s (.v (.int .i64 141))] else [.ao (if errOf (It.lst (usIts us)) = 0 then It.lst (usIts us) else .zero).orow, .s (.v (.int .i64 (if errOf (It.lst (usIts us)) = 0 then 0 else 2)))]

theorem authItem_own : Sound Try.prog 14 fun args k => ∃ (us : List Au) (s : List (List PS)), args = [.s (.sl (us.map Au.row) s)] ∧ (∀ u ∈ us, u.ok) ∧ us.length ≤ 2 ^ 30 ∧ k (authItO us) := by
  refine Sound.of_bodyT [] 1 tt_ok ent_ok Try.func14 rfl ?_
  rintro ar har Γ hΓ args k ⟨us, s, hargs, hok, hb, hk⟩
  obtain ⟨X, hX⟩ : ∃ X, X = us.map Au.row := ⟨_, rfl⟩
  have hXl : ar.len X = (us.length : Int) := by rw [lenIs har, hX, List.length_map]
  have callX : ∀ (W s : List (List PS)) (w : List Int) (C : List (List PS)) (Γ : Ctx) (d' : Nat) (k : List PR → Prop), Γ = ctx Try.prog d' → C = W → W = w.map b8 → w.length ≤ 2 ^ 40 → k [.ao (otx W)] → Γ.g 25 [.s (.sl C s)] k := fun W s w C Γ d' k hΓ hc hw hl hk => call_by' hΓ text_own ⟨w, s, by rw [hc, hw], hl, by rw [hw] at hk; exact hk⟩
  have callL : ∀ (J C s : List (List PS)) (its : List It) (Γ : Ctx) (d' : Nat) (k : List PR → Prop), Γ = ctx Try.prog d' → C = rowsOf its → J = orowsOf its → bulks its ≤ 2 ^ 40 → k [.ao (olx J)] → Γ.g 26 [.s (.sl C s)] (fun rs => shutRs rs ∧ k rs) := fun J C s its Γ d' k hΓ hC hJ hl hk => call_by' hΓ list_own ⟨its, s, by rw [hC], hl, by rw [← hJ]; exact ⟨by rw [hJ]; exact olx_shut its, hk⟩⟩
  have callN : ∀ (n : Nat) (x : List Value) (D : List (List PS)) (Γ : Ctx) (d' : Nat) (k : List PR → Prop), Γ = ctx Try.prog d' → x = w4 n → n < M256 → D = (numB n).map b8 → k [.ao (otx D)] → Γ.g 30 [.a [.r 4 x]] k := fun n x D Γ d' k hΓ hx hn hD hk => call_by' hΓ rNumber_own ⟨n, by unfold pw; rw [hx], hn, by rw [hD] at hk; exact hk⟩
  have callS : ∀ (n : Nat) (z : Int) (D : List (List PS)) (Γ : Ctx) (d' : Nat) (k : List PR → Prop), Γ = ctx Try.prog d' → z = n → n < 18446744073709551616 → D = (numB n).map b8 → k [.ao (otx D)] → Γ.g 31 [.s (.v (.int .u64 z))] k := fun n z D Γ d' k hΓ hz hn hD hk => call_by' hΓ rSmall_own ⟨n, by rw [hz], hn, by rw [hD] at hk; exact hk⟩
  have hub := us_bulk us hok
  rw [← hX] at hargs
  subst hargs
  conv => cbv
  refine .inr ⟨{ q : Nat × Int × List (List PS) // q.1 ≤ us.length ∧ q.2.1 = q.1 ∧ q.2.2 = orowsOf (usIts (us.take q.1)) ∧ wideU (us.take q.1) = false },
    fun q => ⟨mk 46 [(2, .s (.ptr 0 0)), (3, .s (.lit .i64 0)), (4, .s (.own 1)), (7, .s (.p (.sl X s))), (8, pint (ar.len X)), (9, pint q.1.2.1)], [.box [.c (.bl false), .c .nil, .c .nil], .tre q.1.2.2 [] 27 3 56 none]⟩,
    fun q => us.length - q.1.1, [.ntre 4 27], _, ⟨(0, 0, []), Nat.zero_le _, rfl, rfl, rfl⟩, rfl, ?_, ?_⟩
  · conv => cbv
    simp
  · rintro ⟨⟨p, pi, Z⟩, hq⟩
    have hp : p ≤ us.length := hq.1
    have hpi : pi = (p : Int) := hq.2.1
    have hZ : Z = orowsOf (usIts (us.take p)) := hq.2.2.1
    have hw : wideU (us.take p) = false := hq.2.2.2
    dsimp only
    conv => cbv
    refine ⟨fun h => ?_, fun h => ?_⟩
    · have g := cLt har (b := ar.len X) h
      have hlt : p < us.length := by omega
      obtain ⟨u, hx⟩ : ∃ e, us[p]? = some e := ⟨_, List.getElem?_eq_getElem hlt⟩
      have huk := hok u (List.mem_of_getElem? hx)
      have hpb := parts_bulk huk
      obtain ⟨c1, hc1⟩ : ∃ x, x = w4 u.ch := ⟨_, rfl⟩
      obtain ⟨c2, hc2⟩ : ∃ x, x = u8s u.a := ⟨_, rfl⟩
      obtain ⟨c3, hc3⟩ : ∃ x : Int, x = u.no := ⟨_, rfl⟩
      obtain ⟨c4, hc4⟩ : ∃ x : Int, x = u.pa := ⟨_, rfl⟩
      obtain ⟨c5, hc5⟩ : ∃ x, x = w4 u.r := ⟨_, rfl⟩
      obtain ⟨c6, hc6⟩ : ∃ x, x = w4 u.s := ⟨_, rfl⟩
      obtain ⟨D1, hD1⟩ : ∃ x, x = (numB u.ch).map b8 := ⟨_, rfl⟩
      obtain ⟨D2, hD2⟩ : ∃ x, x = u.a.map b8 := ⟨_, rfl⟩
      obtain ⟨D3, hD3⟩ : ∃ x, x = (numB u.no).map b8 := ⟨_, rfl⟩
      obtain ⟨D4, hD4⟩ : ∃ x, x = (numB u.pa).map b8 := ⟨_, rfl⟩
      obtain ⟨D5, hD5⟩ : ∃ x, x = (numB u.r).map b8 := ⟨_, rfl⟩
      obtain ⟨D6, hD6⟩ : ∃ x, x = (numB u.s).map b8 := ⟨_, rfl⟩
      have rx : X[pi.toNat]? = some [.r 4 c1, .r 20 c2, .c (.v (.int .u64 c3)), .c (.v (.int .u64 c4)), .r 4 c5, .r 4 c6] := by rw [hX, hpi]; simp [hx, Au.row, hc1, hc2, hc3, hc4, hc5, hc6]
      have hcc : ar.cells c2 = D2 := by rw [hc2, hD2, bytes_cells ar har]
      obtain ⟨u1, u2, u3, u4, u5, u6⟩ := huk
      have wide1 : c4 > 255 → wideU us = true := fun h => by
        rw [wideU, List.any_eq_true]
        exact ⟨u, List.mem_of_getElem? hx, by rw [decide_eq_true_eq]; omega⟩
      have wide2 : ¬ c4 > 255 → wideU (us.take (p + 1)) = false := fun h => by
        rw [wideU, take_succ_get hx, List.any_append, ← wideU, hw, Bool.false_or, List.any_cons, List.any_nil, Bool.or_false, decide_eq_false_iff_not]; omega
      obtain ⟨J, hJ⟩ : ∃ J, J = orowsOf u.parts := ⟨_, rfl⟩
      have f0 := frz0 har
      have fD1 : ar.frz D1 = D1 := by rw [hD1, frzB har]
      have fD2 : ar.frz D2 = D2 := by rw [hD2, frzB har]
      have fD3 : ar.frz D3 = D3 := by rw [hD3, frzB har]
      have fD4 : ar.frz D4 = D4 := by rw [hD4, frzB har]
      have fD5 : ar.frz D5 = D5 := by rw [hD5, frzB har]
      have fD6 : ar.frz D6 = D6 := by rw [hD6, frzB har]
      have hJ2 : [[PS.c (.v (.bool false)), .c (.sl (ar.frz D1) (ar.frz [])), .c (.sl (ar.frz []) (ar.frz []))], [PS.c (.v (.bool false)), .c (.sl (ar.frz D2) (ar.frz [])), .c (.sl (ar.frz []) (ar.frz []))], [PS.c (.v (.bool false)), .c (.sl (ar.frz D3) (ar.frz [])), .c (.sl (ar.frz []) (ar.frz []))], [PS.c (.v (.bool false)), .c (.sl (ar.frz D4) (ar.frz [])), .c (.sl (ar.frz []) (ar.frz []))], [PS.c (.v (.bool false)), .c (.sl (ar.frz D5) (ar.frz [])), .c (.sl (ar.frz []) (ar.frz []))], [PS.c (.v (.bool false)), .c (.sl (ar.frz D6) (ar.frz [])), .c (.sl (ar.frz []) (ar.frz []))]] = rowsOf u.parts := by
        rw [f0, fD1, fD2, fD3, fD4, fD5, fD6, hD1, hD2, hD3, hD4, hD5, hD6]; rfl
      have callJ := fun (Γ : Ctx) (d' : Nat) (k : List PR → Prop) (h1 : Γ = ctx Try.prog d') (h2) => callL J _ [] u.parts Γ d' k h1 hJ2 hJ (by omega) h2
      have s1 : 0 < 1 ∧ (Z.length + 1) * 56 ≤ 140737488355328 ∧ ∀ y ∈ [olx J], rlen y = 3 := ⟨by omega, by rw [hZ, orowsOf_length, usIts, List.length_map, List.length_take]; omega, by simp [olx, rlen, PS.len]⟩
      have hZ2 : ar.app Z [olx J] = orowsOf (usIts (us.take (p + 1))) := by
        rw [appIs har, hZ, take_succ_get hx, usIts, usIts, List.map_append, orowsOf_append, hJ]; rfl
      conv => cbv
      refine ⟨_, by omega, rx, rfl, ?_⟩
      conv => cbv
      refine ⟨fun h => ?_, fun h => ?_⟩
      · have g2 := cGt har (a := c4) (b := 255) h
        rw [authItO, if_pos (wide1 g2)] at hk
        conv => cbv
        exact ⟨[.ao (otx []), .s (.v (.int .i64 141))], ⟨⟨rfl, ⟨rfl, rfl, by decide⟩, ⟨rfl, rfl, by decide⟩, trivial⟩, rfl, trivial⟩, hk⟩
      · have g2 := cNgt har (a := c4) (b := 255) h
        have hw2 := wide2 (by omega)
        conv => cbv
        refine ⟨by rw [har]; kernel_rfl, ?_⟩
        refine callN u.ch c1 D1 _ _ _ hΓ hc1 u1 hD1 ?_
        conv => cbv
        refine callX D2 [] u.a _ _ _ _ hΓ hcc hD2 (by omega) ?_
        conv => cbv
        refine callS u.no c3 D3 _ _ _ hΓ hc3 u3 hD3 ?_
        conv => cbv
        refine callS u.pa c4 D4 _ _ _ hΓ hc4 u4 hD4 ?_
        conv => cbv
        refine callN u.r c5 D5 _ _ _ hΓ hc5 u5 hD5 ?_
        conv => cbv
        refine callN u.s c6 D6 _ _ _ hΓ hc6 u6 hD6 ?_
        conv => cbv
        refine callJ _ _ _ hΓ ?_
        conv => cbv
        refine ⟨fun _ => s1, ?_⟩
        refine ⟨⟨(p + 1, ar.ib .add .i64 pi 1, ar.app Z [olx J]), hlt, iSucc har hpi (by omega), hZ2, hw2⟩, ?_, ?_⟩
        · dsimp only
          conv => cbv
          simp
        · show us.length - (p + 1) < us.length - p
          omega
    · have g := cNlt har (b := ar.len X) h
      have hpe : p = us.length := by omega
      rw [hpe, List.take_length] at hZ hw
      have fZ : ar.frz Z = rowsOf (usIts us) := by rw [hZ, frzO har, strips_us]
      have f0 := frz0 har
      obtain ⟨er, her⟩ : ∃ z : Int, z = (errOf (It.lst (usIts us)) : Nat) := ⟨_, rfl⟩
      have callS : ∀ (Γ : Ctx) (d' : Nat) (k : List PR → Prop) (R : Prop), Γ = ctx Try.prog d' → (∀ z, k [.s (.v (.int .i64 z)), .s (.v (.int .i64 er))]) → Γ.g 43 [.a [.c (.v (.bool true)), .c (.sl (ar.frz []) (ar.frz [])), .c (.sl (ar.frz Z) (ar.frz []))]] k ∨ R := fun Γ d' k R hΓ hk => call_by hΓ rsize_sound ⟨It.lst (usIts us), by rw [fZ, f0]; rfl, by simp only [It.lst, It.bulk, List.length_nil]; omega, by rw [← her]; exact hk _⟩
      rw [authItO, hw, if_neg (by decide)] at hk
      have hgood : er = 0 → k [.ao (olx Z), .s (.v (.int .i64 0))] := fun h => by
        have h2 : errOf (It.lst (usIts us)) = 0 := by omega
        rw [if_pos h2, if_pos h2] at hk
        rw [hZ]; exact hk
      have hbad : er ≠ 0 → k [.ao (otx []), .s (.v (.int .i64 2))] := fun h => by
        have h2 : ¬ errOf (It.lst (usIts us)) = 0 := by omega
        rw [if_neg h2, if_neg h2] at hk
        exact hk
      clear hk
      have callL' : ∀ (J C s : List (List PS)) (Γ : Ctx) (d' : Nat) (k : List PR → Prop) (R : Prop), Γ = ctx Try.prog d' → C = rowsOf (usIts us) → J = orowsOf (usIts us) → k [.ao (olx J)] → Γ.g 26 [.s (.sl C s)] (fun rs => shutRs rs ∧ k rs) ∨ R := fun J C s Γ d' k R h1 h2 h3 h4 => .inl (callL J C s (usIts us) Γ d' k h1 h2 h3 (by omega) h4)
      conv => cbv
      refine callL' Z _ _ _ _ _ _ hΓ fZ hZ ?_
      conv => cbv
      refine call_in har hΓ Try.func27 rfl fun Γ1 hΓ1 vs1 => ?_
      conv => cbv
      refine callS _ _ _ _ hΓ1 fun z => ?_
      conv => cbv
      refine ⟨fun h => ?_, fun h => ?_⟩
      · have g2 := cNe har (a := er) (b := 0) h
        have hk := hbad g2
        conv => cbv
        exact ⟨[.ao (otx []), .s (.v (.int .i64 2))], ⟨⟨rfl, ⟨rfl, rfl, by decide⟩, ⟨rfl, rfl, by decide⟩, trivial⟩, rfl, trivial⟩, hk⟩
      · have g2 := cNne har (a := er) (b := 0) h
        have hk := hgood g2
        conv => cbv
        exact ⟨[.ao (olx Z), .s (.v (.int .i64 0))], ⟨⟨rfl, rfl, rfl, trivial⟩, rfl, trivial⟩, hk⟩
end Go.Eng
namespace Go.Eng
open Go Go.Proofs
set_option maxRecDepth 100000
set_option maxHeartbeats 4000000
set_option linter.unusedVariables false

def SpoilC (B : Nat) (args : List PR) (k : List PR → Prop) : Prop := ∃ it : It, args = [.ao it.orow] ∧ it.bulk ≤ B ∧ B ≤ 2 ^ 30 ∧ k []

theorem spoil_step (B : Nat) (ih : ∀ B', B' < B → SoundE Try.prog 13 (SpoilC B')) : SoundE Try.prog 13 (SpoilC B) := by
  refine SoundE.of_body 1 tt_ok ent_ok Try.func13 rfl ?_
  rintro ar har Γ hΓ H args k ⟨it, hargs, hb, hB, hk⟩
  obtain ⟨l, d, sd, its, ss⟩ := it
  obtain ⟨D, hD⟩ : ∃ D, D = d.map b8 := ⟨_, rfl⟩
  obtain ⟨I, hI⟩ : ∃ I, I = orowsOf its := ⟨_, rfl⟩
  have hDn : D.length = d.length := by rw [hD, List.length_map]
  have hD1 : ∀ y ∈ D, rlen y = 1 := by rw [hD]; exact b8_all _
  simp only [It.bulk] at hb
  have hil := bulks_len its
  unfold It.orow at hargs
  rw [← hD, ← hI] at hargs
  subst hargs
  conv => cbv
  refine .inr ⟨{ q : Nat × Int × List Int × List (List PS) // q.1 ≤ d.length ∧ q.2.1 = q.1 ∧ q.2.2.1.length = d.length ∧ q.2.2.2 = q.2.2.1.map b8 },
    fun q => ⟨mk 59 [(0, .a [.c (.p (.v (.bool l))), .c (.own 1), .c (.own 2)]), (1, .s (.ptr 3 0)), (2, pint q.1.2.1)], [.wld H, .tre q.1.2.2.2 [] 5 1 1 none, .tre I [] 27 3 56 none, .box [.c (.p (.v (.bool l))), .c (.own 1), .c (.own 2)]]⟩,
    fun q => d.length - q.1.1, [], _, ⟨(0, 0, d, D), Nat.zero_le _, rfl, rfl, hD⟩, rfl, ?_, ?_⟩
  · conv => cbv
    simp
  rintro ⟨⟨p, pi, es, Z⟩, hq⟩
  have hp : p ≤ d.length := hq.1
  have hpi : pi = (p : Int) := hq.2.1
  have hen : es.length = d.length := hq.2.2.1
  have hZ : Z = es.map b8 := hq.2.2.2
  have hZn : Z.length = d.length := by rw [hZ, List.length_map, hen]
  have hZl : ar.len Z = (d.length : Int) := by rw [lenIs har, hZn]
  have s0 : 0 < [[PS.c (.v (.int .u8 225))]].length ∧ (Z.length + [[PS.c (.v (.int .u8 225))]].length) * 1 ≤ 140737488355328 ∧ ∀ y ∈ [[PS.c (.v (.int .u8 225))]], rlen y = 1 := ⟨by simp, by simp; omega, by simp [rlen, PS.len]⟩
  dsimp only
  conv => cbv
  refine ⟨fun h => ?_, fun h => ?_⟩
  · have g := cLt har (b := ar.len Z) h
    have hlt : p < d.length := by omega
    have hi1 := iSucc har hpi (by omega)
    obtain ⟨x, hx⟩ : ∃ x, es[p]? = some x := ⟨_, List.getElem?_eq_getElem (by omega)⟩
    have rx : Z[ar.nat pi]? = some [.c (.v (.int .u8 x))] := by rw [natIs har, hpi, Int.toNat_natCast, hZ, List.getElem?_map, hx]; rfl
    have hZ2 : ar.setx Z (ar.nat pi) [.c (.v (.int .u8 238))] = (es.set p 238).map b8 := by rw [setxIs har, natIs har, hpi, Int.toNat_natCast, hZ, List.map_set]; rfl
    have hb2 : 0 ≤ pi ∧ pi < (Z.length : Int) := by omega
    conv => cbv
    refine ⟨fun _ => hb2, _, rx, ?_⟩
    conv => cbv
    refine ⟨⟨(p + 1, ar.ib .add .i64 pi 1, es.set p 238, ar.setx Z (ar.nat pi) [.c (.v (.int .u8 238))]), hlt, hi1, by rw [List.length_set]; exact hen, hZ2⟩, ?_, ?_⟩
    · dsimp only
      conv => cbv
      simp
    · show d.length - (p + 1) < d.length - p
      omega
  · conv => cbv
    refine ⟨fun _ => s0, ?_⟩
    refine .inr ⟨{ q : Nat × Int × List (List PS) // q.1 ≤ 40 ∧ q.2.1 = q.1 ∧ q.2.2.length = d.length + 1 + q.1 },
      fun q => ⟨mk 59 [(1, .s (.ptr 3 0)), (3, .s (.own 1)), (4, pint q.1.2.1)], [.wld H, .tre q.1.2.2 [] 5 1 1 none, .tre I [] 27 3 56 none, .box [.c (.p (.v (.bool l))), .c (.stl Z), .c (.own 2)]]⟩,
      fun q => 40 - q.1.1, [], _, ⟨(0, 0, ar.app Z [[PS.c (.v (.int .u8 225))]]), Nat.zero_le _, rfl, by rw [appIs har, List.length_append, hZn]; rfl⟩, rfl, ?_, ?_⟩
    · conv => cbv
      simp
    rintro ⟨⟨r, ri, Y⟩, hr⟩
    have hr1 : r ≤ 40 := hr.1
    have hri : ri = (r : Int) := hr.2.1
    have hY : Y.length = d.length + 1 + r := hr.2.2
    have s2 : 0 < [[PS.c (.v (.int .u8 226))]].length ∧ (Y.length + [[PS.c (.v (.int .u8 226))]].length) * 1 ≤ 140737488355328 ∧ ∀ y ∈ [[PS.c (.v (.int .u8 226))]], rlen y = 1 := ⟨by simp, by simp; omega, by simp [rlen, PS.len]⟩
    dsimp only
    conv => cbv
    refine ⟨fun h => ?_, fun h => ?_⟩
    · have g := cLt har (b := 40) h
      have hi1 := iSucc har hri (by omega)
      conv => cbv
      refine ⟨fun _ => s2, ?_⟩
      refine ⟨⟨(r + 1, ar.ib .add .i64 ri 1, ar.app Y [[PS.c (.v (.int .u8 226))]]), by show r + 1 ≤ 40; omega, hi1, by rw [appIs har, List.length_append, hY]; rfl⟩, ?_, ?_⟩
      · dsimp only
        conv => cbv
        simp
      · show 40 - (r + 1) < 40 - r
        omega
    · conv => cbv
      refine .inr ⟨{ q : Nat × Int × List (List PS) // q.1 ≤ its.length ∧ q.2.1 = q.1 ∧ q.2.2.length = its.length ∧ ∀ j, q.1 ≤ j → q.2.2[j]? = I[j]? },
        fun q => ⟨mk 59 [(1, .s (.ptr 3 0)), (5, pint q.1.2.1)], [.wld H, .tre Y [] 5 1 1 none, .tre q.1.2.2 [] 27 3 56 none, .box [.c (.p (.v (.bool l))), .c (.stl Z), .c (.own 2)]]⟩,
        fun q => its.length - q.1.1, [], _, ⟨(0, 0, I), Nat.zero_le _, rfl, by rw [hI, orowsOf_length], fun _ _ => rfl⟩, rfl, ?_, ?_⟩
      · conv => cbv
        simp
      rintro ⟨⟨w, wi, J⟩, hw⟩
      have hw1 : w ≤ its.length := hw.1
      have hwi : wi = (w : Int) := hw.2.1
      have hJ : J.length = its.length := hw.2.2.1
      have hJ2 : ∀ j, w ≤ j → J[j]? = I[j]? := hw.2.2.2
      have hJl : ar.len J = (its.length : Int) := by rw [lenIs har, hJ]
      dsimp only
      conv => cbv
      refine ⟨fun h => ?_, fun h => ?_⟩
      · have g := cLt har (b := ar.len J) h
        have hlt : w < its.length := by omega
        have hi1 := iSucc har hwi (by omega)
        obtain ⟨x, hx⟩ : ∃ x, its[w]? = some x := ⟨_, List.getElem?_eq_getElem hlt⟩
        have hxb := bulk_get hx
        obtain ⟨xl, xd, xsd, xi, xss⟩ := x
        obtain ⟨XD, hXD⟩ : ∃ D, D = xd.map b8 := ⟨_, rfl⟩
        obtain ⟨XI, hXI⟩ : ∃ I, I = orowsOf xi := ⟨_, rfl⟩
        have rx : J[ar.nat wi]? = some [.c (.v (.bool xl)), .c (.on XD [] 5 1 1), .c (.on XI [] 27 3 56)] := by
          rw [natIs har, hwi, Int.toNat_natCast, hJ2 w (Nat.le_refl _), hI, orowsOf_get hx, hXD, hXI]; rfl
        have hb2 : 0 ≤ wi ∧ wi < (J.length : Int) := by omega
        have hn : ar.nat wi = w := by rw [natIs har, hwi, Int.toNat_natCast]
        have hb3 : ∀ w1 : Nat → Value, 0 ≤ wi ∧ wi < ((ar.setx J (ar.nat wi) [.c (.v (.bool xl)), .c (.v (w1 0)), .c (.v (w1 1))]).length : Int) := fun w1 => by
          rw [setxIs har, List.length_set]; exact hb2
        have ry : ∀ w1 : Nat → Value, (ar.setx J (ar.nat wi) [.c (.v (.bool xl)), .c (.v (w1 0)), .c (.v (w1 1))])[ar.nat wi]? = some [.c (.v (.bool xl)), .c (.v (w1 0)), .c (.v (w1 1))] := fun w1 => by
          rw [setxIs har, hn, List.getElem?_set_self (by omega)]
        have hJ3 : ∀ r1 r2, (ar.setx (ar.setx J (ar.nat wi) r1) (ar.nat wi) r2).length = its.length := fun r1 r2 => by
          rw [setxIs har, setxIs har, List.length_set, List.length_set, hJ]
        have hJ4 : ∀ r1 r2 j, w + 1 ≤ j → (ar.setx (ar.setx J (ar.nat wi) r1) (ar.nat wi) r2)[j]? = I[j]? := fun r1 r2 j hj => by
          rw [setxIs har, setxIs har, hn, List.getElem?_set_ne (by omega), List.getElem?_set_ne (by omega), hJ2 j (by omega)]
        have callS : ∀ (Γ : Ctx) (d' : Nat) (k : List PR → Prop), Γ = ctx Try.prog d' → k [] → Γ.e 13 [.ao [.c (.v (.bool xl)), .c (.on XD [] 5 1 1), .c (.on XI [] 27 3 56)]] k := fun Γ d' k hΓ hk =>
          eat_by hΓ (ih (It.mk xl xd xsd xi xss).bulk (by omega)) ⟨It.mk xl xd xsd xi xss, by rw [hXD, hXI]; rfl, Nat.le_refl _, by omega, hk⟩
        conv => cbv
        refine ⟨fun _ => hb2, _, rx, ?_⟩
        conv => cbv
        intro w1
        conv => cbv
        refine .inr (.inr (.inr ⟨_, loosRs_refl _, callS _ _ _ hΓ ?_⟩))
        conv => cbv
        refine ⟨fun _ => hb3 w1, _, ry w1, ?_⟩
        conv => cbv
        refine ⟨⟨(w + 1, ar.ib .add .i64 wi 1, ar.setx (ar.setx J (ar.nat wi) [.c (.v (.bool xl)), .c (.v (w1 0)), .c (.v (w1 1))]) (ar.nat wi) [.c (.v (.bool false)), .c (.ow [[.c (.v (.int .u8 9))]] 5 1 1), .c (.v (.slice none 0 0))]), hlt, hi1, hJ3 _ _, hJ4 _ _⟩, ?_, ?_⟩
        · dsimp only
          conv => cbv
          simp
        · show its.length - (w + 1) < its.length - w
          omega
      · have s5 : 0 < [[PS.c (.v (.bool true)), PS.c (.sl [] []), PS.c (.sl [] [])]].length ∧ (J.length + [[PS.c (.v (.bool true)), PS.c (.sl [] []), PS.c (.sl [] [])]].length) * 56 ≤ 140737488355328 ∧ ∀ y ∈ [[PS.c (.v (.bool true)), PS.c (.sl [] []), PS.c (.sl [] [])]], rlen y = 3 := ⟨by simp, by simp; omega, by simp [rlen, PS.len]⟩
        have s6 : 0 ≤ ar.len J ∧ ar.len J < ((ar.app J [[PS.c (.v (.bool true)), PS.c (.sl [] []), PS.c (.sl [] [])]]).length : Int) := by
          rw [appIs har, List.length_append]; simp only [List.length_singleton]; omega
        have rl : (ar.app J [[PS.c (.v (.bool true)), PS.c (.sl [] []), PS.c (.sl [] [])]])[ar.nat (ar.len J)]? = some [PS.c (.v (.bool true)), PS.c (.sl [] []), PS.c (.sl [] [])] := by
          rw [appIs har, natIs har, hJl, Int.toNat_natCast, ← hJ, List.getElem?_append_right (Nat.le_refl _), Nat.sub_self]; rfl
        conv => cbv
        refine ⟨fun _ => s5, fun _ => s6, _, rl, ?_⟩
        conv => cbv
        exact hk

theorem spoil_eats : ∀ B, SoundE Try.prog 13 (SpoilC B) := fun B => by
  induction B using Nat.strongRecOn with
  | _ B ih => exact spoil_step B ih
end Go.Eng
