import Derived.Test.YtgihmigiecfmaaaDoorRC
import Derived.Test.YtgihmigiecfmaaaDoorFA
import Derived.Test.YtgihmigiecfmaaaDoorLA
namespace Go.Eng
open Go Go.Proofs
set_option maxRecDepth 100000
set_option maxHeartbeats 4000000
set_option linter.unusedVariables false
abbrev oB (D : List (List PS)) : PV := .on D [] 5 1 1
abbrev oI (J : List (List PS)) : PV := .on J [] 52 3 56
mutual
def It.orow : It → List PS
 | .mk l d _ its _ => [.c (.v (.bool l)), .c (oB (d.map b8)), .c (oI (orowsOf its))]
def orowsOf : List It → List (List PS)
 | [] => []
 | x :: xs => x.orow :: orowsOf xs
end
theorem orowsOf_map : ∀ its : List It, orowsOf its = its.map It.orow
 | [] => rfl
 | x :: xs => by rw [orowsOf, List.map_cons, orowsOf_map xs]
theorem orowsOf_length (its : List It) : (orowsOf its).length = its.length := by rw [orowsOf_map, List.length_map]
theorem orowsOf_append (a b : List It) : orowsOf (a ++ b) = orowsOf a ++ orowsOf b := by rw [orowsOf_map, orowsOf_map, orowsOf_map, List.map_append]
theorem shutX_b8 : ∀ d : List Int, shutX (d.map b8)
 | [] => trivial
 | x :: d => ⟨⟨trivial, trivial⟩, shutX_b8 d⟩
mutual
theorem orow_shut : ∀ x : It, shutL x.orow
 | .mk l d _ its _ => ⟨trivial, ⟨shutX_b8 d, trivial⟩, ⟨orows_shut its, trivial⟩, trivial⟩
theorem orows_shut : ∀ its : List It, shutX (orowsOf its)
 | [] => trivial
 | x :: xs => ⟨orow_shut x, orows_shut xs⟩
end
theorem frzX_b8 : ∀ d : List Int, frzX (d.map b8) = d.map b8
 | [] => rfl
 | x :: d => by rw [List.map_cons, frzX, frzX_b8 d]; rfl
mutual
theorem orow_frz : ∀ x : It, frzL x.orow = x.strip.row
 | .mk l d sd its ss => by
  show [PS.c (.v (.bool l)), .c (.sl (frzX (d.map b8)) []), .c (.sl (frzX (orowsOf its)) [])] = _
  rw [frzX_b8, orows_frz its]; rfl
theorem orows_frz : ∀ its : List It, frzX (orowsOf its) = rowsOf (strips its)
 | [] => rfl
 | x :: xs => by
  show frzL x.orow :: frzX (orowsOf xs) = _
  rw [orow_frz x, orows_frz xs]; rfl
end
section
variable {ar : Ar}
theorem frz0 (har : ar = arS) : ar.frz [] = [] := by rw [har]; rfl
theorem frzB (har : ar = arS) (d : List Int) : ar.frz (d.map b8) = d.map b8 := by rw [har]; exact frzX_b8 d
theorem frzO (har : ar = arS) (its : List It) : ar.frz (orowsOf its) = rowsOf (strips its) := by rw [har]; exact orows_frz its
end
theorem clone_own : Sound Tryd.prog 52 fun args k => ∃ (d : List Int) (sd : List (List PS)), args = [.s (.sl (d.map b8) sd)] ∧ d.length ≤ 2 ^ 40 ∧ k [.s (oB (d.map b8))] := by
 refine Sound.of_bodyT [] 0 tt_ok ent_ok Tryd.func52 rfl ?_
 rintro ar har Γ hΓ args k ⟨d, sd, rfl, hl, hk⟩
 obtain ⟨D, hD⟩ : ∃ D, D = d.map b8 := ⟨_, rfl⟩
 have hD1 : ∀ y ∈ D, rlen y = 1 := by rw [hD]; exact b8_all d
 have hD2 : D.length = d.length := by rw [hD, List.length_map]
 have hap : ar.app [] D = D := by rw [appIs har]; rfl
 rw [← hD] at hk ⊢
 rw [← hap] at hk
 conv => cbv
 refine ⟨fun _ => ⟨?_, hD1⟩, [.s (oB (ar.app [] D))], ⟨⟨rfl, rfl, rfl, rfl, rfl⟩, trivial⟩, hk⟩
 show (0 + D.length) * 1 ≤ 140737488355328
 omega
def otx (D : List (List PS)) : List PS := [.c (.v (.bool false)), .c (oB D), .c (oI [])]
def olx (J : List (List PS)) : List PS := [.c (.v (.bool true)), .c (oB []), .c (oI J)]
theorem text_own : Sound Tryd.prog 61 fun args k => ∃ (d : List Int) (sd : List (List PS)), args = [.s (.sl (d.map b8) sd)] ∧ d.length ≤ 2 ^ 40 ∧ k [.ao (otx (d.map b8))] := by
 refine Sound.of_bodyT [] 0 tt_ok ent_ok Tryd.func61 rfl ?_
 rintro ar har Γ hΓ args k ⟨d, sd, rfl, hl, hk⟩
 obtain ⟨D, hD⟩ : ∃ D, D = d.map b8 := ⟨_, rfl⟩
 rw [← hD] at hk
 rw [← hD]
 conv => cbv
 refine call_by hΓ clone_own ⟨d, sd, by rw [hD], hl, ?_⟩
 rw [← hD]
 conv => cbv
 exact ⟨[.ao (otx D)], ⟨⟨rfl, rfl, ⟨rfl, rfl, by decide⟩, trivial⟩, trivial⟩, hk⟩
def OTwinC (B : Nat) (args : List PR) (k : List PR → Prop) : Prop := ∃ (its : List It) (ss : List (List PS)), args = [.s (.sl (rowsOf its) ss)] ∧ bulks its ≤ B ∧ B ≤ 2 ^ 40 ∧ k [.s (oI (orowsOf its))]
theorem otwin_step (B : Nat) (ih : ∀ B', B' < B → Sound Tryd.prog 32 (OTwinC B')) : Sound Tryd.prog 32 (OTwinC B) := by
 refine Sound.of_bodyT [] 0 tt_ok ent_ok Tryd.func32 rfl ?_
 rintro ar har Γ hΓ args k ⟨its, ss, hargs, hb, hB, hk⟩
 obtain ⟨I, hI⟩ : ∃ I, I = rowsOf its := ⟨_, rfl⟩
 have hIl : ar.len I = (its.length : Int) := by rw [lenIs har, hI, rowsOf_length]
 have hil := bulks_len its
 rw [← hI] at hargs
 subst hargs
 conv => cbv
 refine .inr ⟨{ q : Nat × Int × List (List PS) // q.1 ≤ its.length ∧ q.2.1 = q.1 ∧ q.2.2 = orowsOf (its.take q.1) },
  fun q => ⟨mk 26 [(2, .s .nil), (3, .s (.own 0)), (6, .s (.p (.sl I ss))), (7, pint (ar.len I)), (8, pint q.1.2.1)], [.tre q.1.2.2 [] 52 3 56 none]⟩,
  fun q => its.length - q.1.1, [.ntre 3 52], _, ⟨(0, 0, []), Nat.zero_le _, rfl, rfl⟩, rfl, ?_, ?_⟩
 ·conv => cbv
  simp
 ·rintro ⟨⟨p, pi, Z⟩, hq⟩
  have hp : p ≤ its.length := hq.1
  have hpi : pi = (p : Int) := hq.2.1
  have hZ : Z = orowsOf (its.take p) := hq.2.2
  dsimp only
  conv => cbv
  refine ⟨fun h => ?_, fun h => ?_⟩
  ·have g := cLt har (b := ar.len I) h
   have hlt : p < its.length := by omega
   obtain ⟨x, hx⟩ : ∃ x, its[p]? = some x := ⟨_, List.getElem?_eq_getElem hlt⟩
   have hxb := bulk_get hx
   obtain ⟨l', d', sd', its', ss'⟩ := x
   have hxb2 : 1 + d'.length + bulks its' ≤ bulks its := hxb
   obtain ⟨D', hD'⟩ : ∃ D', D' = d'.map b8 := ⟨_, rfl⟩
   obtain ⟨I', hI'⟩ : ∃ I', I' = rowsOf its' := ⟨_, rfl⟩
   obtain ⟨I2, hI2⟩ : ∃ I', I' = orowsOf its' := ⟨_, rfl⟩
   have hrow' : (It.mk l' d' sd' its' ss').row = [.c (.v (.bool l')), .c (.sl D' sd'), .c (.sl I' ss')] := by rw [hD', hI']; rfl
   have rx : I[pi.toNat]? = some [.c (.v (.bool l')), .c (.sl D' sd'), .c (.sl I' ss')] := by rw [hI, hpi, Int.toNat_natCast, rowsOf_get hx, hrow']
   have hZ2 : ar.app Z [[.c (.v (.bool l')), .c (oB D'), .c (oI I2)]] = orowsOf (its.take (p + 1)) := by
    rw [appIs har, hZ, take_succ_get hx, orowsOf_append, hD', hI2]; rfl
   have hZl : Z.length = p := by rw [hZ, orowsOf_length, List.length_take]; omega
   have callC : ∀ (Γ : Ctx) (d'' : Nat) (k : List PR → Prop), Γ = ctx Tryd.prog d'' → k [.s (oB D')] → Γ.g 52 [.s (.sl D' sd')] k := fun Γ d'' k hΓ hk => call_by' hΓ clone_own ⟨d', sd', by rw [hD'], by omega, by rw [← hD']; exact hk⟩
   have callT : ∀ (Γ : Ctx) (d'' : Nat) (k : List PR → Prop), Γ = ctx Tryd.prog d'' → k [.s (oI I2)] → Γ.g 32 [.s (.sl I' ss')] k := fun Γ d'' k hΓ hk => call_by' hΓ (ih (bulks its') (by omega)) ⟨its', ss', by rw [hI'], Nat.le_refl _, by omega, by rw [← hI2]; exact hk⟩
   have s1 : 0 < 0 + 1 ∧ (Z.length + 1) * 56 ≤ 140737488355328 ∧ ∀ y ∈ [[PS.c (.v (.bool l')), .c (oB D'), .c (oI I2)]], rlen y = 3 := ⟨by omega, by omega, by simp [rlen, PS.len]⟩
   conv => cbv
   refine ⟨_, by omega, rx, rfl, ?_⟩
   conv => cbv
   refine ⟨by rw [har]; kernel_rfl, ?_⟩
   refine callC _ _ _ hΓ ?_
   conv => cbv
   refine callT _ _ _ hΓ ?_
   conv => cbv
   refine ⟨fun _ => s1, ?_⟩
   refine ⟨⟨(p + 1, ar.ib .add .i64 pi 1, ar.app Z [[.c (.v (.bool l')), .c (oB D'), .c (oI I2)]]), hlt, iSucc har hpi (by omega), hZ2⟩, ?_, ?_⟩
   ·dsimp only
    conv => cbv
    simp
   ·show its.length - (p + 1) < its.length - p
    omega
  ·have g := cNlt har (b := ar.len I) h
   have hge : p = its.length := by omega
   rw [hge, List.take_length] at hZ
   rw [← hZ] at hk
   conv => cbv
   exact ⟨[.s (oI Z)], ⟨rfl, trivial⟩, hk⟩
theorem otwin_sound : ∀ B, Sound Tryd.prog 32 (OTwinC B) := fun B => by
 induction B using Nat.strongRecOn with
 | _ B ih => exact otwin_step B ih
theorem list_own : Sound Tryd.prog 14 fun args k => ∃ (its : List It) (ss : List (List PS)), args = [.s (.sl (rowsOf its) ss)] ∧ bulks its ≤ 2 ^ 40 ∧ k [.ao (olx (orowsOf its))] := by
 refine Sound.of_bodyT [] 0 tt_ok ent_ok Tryd.func14 rfl ?_
 rintro ar har Γ hΓ args k ⟨its, ss, hargs, hb, hk⟩
 obtain ⟨I, hI⟩ : ∃ I, I = rowsOf its := ⟨_, rfl⟩
 obtain ⟨J, hJ⟩ : ∃ J, J = orowsOf its := ⟨_, rfl⟩
 rw [← hJ] at hk
 have callT : ∀ (Γ : Ctx) (d'' : Nat) (k : List PR → Prop) (R : Prop), Γ = ctx Tryd.prog d'' → k [.s (oI J)] → Γ.g 32 [.s (.sl I ss)] k ∨ R := fun Γ d'' k R hΓ hk => call_by hΓ (otwin_sound (2 ^ 40)) ⟨its, ss, by rw [hI], hb, by omega, by rw [← hJ]; exact hk⟩
 rw [← hI] at hargs
 subst hargs
 conv => cbv
 refine callT _ _ _ _ hΓ ?_
 conv => cbv
 exact ⟨[.ao (olx J)], ⟨⟨rfl, ⟨rfl, rfl, by decide⟩, rfl, trivial⟩, trivial⟩, hk⟩
end Go.Eng
namespace Go.Eng
open Go Go.Proofs
set_option maxRecDepth 100000
set_option maxHeartbeats 4000000
set_option linter.unusedVariables false
theorem olx_shut (its : List It) : shutRs [.ao (olx (orowsOf its))] := ⟨⟨trivial, ⟨trivial, trivial⟩, ⟨orows_shut its, trivial⟩, trivial⟩, trivial⟩
theorem accItem_own : Sound Tryd.prog 62 fun args k => ∃ (es : List Ent) (s : List (List PS)), args = [.s (.sl (es.map Ent.row) s)] ∧ (∀ e ∈ es, e.a.length = 20 ∧ ∀ w ∈ e.ks, w.length = 32) ∧ bulks (esIts es) < 2 ^ 40 ∧
  k [.ao (if errOf (It.lst (esIts es)) = 0 then It.lst (esIts es) else .zero).orow, .s (.v (.int .i64 (if errOf (It.lst (esIts es)) = 0 then 0 else 2)))] := by
 refine Sound.of_bodyT [] 1 tt_ok ent_ok Tryd.func62 rfl ?_
 rintro ar har Γ hΓ args k ⟨es, s, hargs, hlen, hb, hk⟩
 obtain ⟨X, hX⟩ : ∃ X, X = es.map Ent.row := ⟨_, rfl⟩
 have hXl : ar.len X = (es.length : Int) := by rw [lenIs har, hX, List.length_map]
 have callX : ∀ (W s : List (List PS)) (w : List Int) (C : List (List PS)) (Γ : Ctx) (d' : Nat) (k : List PR → Prop) (R : Prop), Γ = ctx Tryd.prog d' → C = W → W = w.map b8 → w.length ≤ 2 ^ 40 → k [.ao (otx W)] → Γ.g 61 [.s (.sl C s)] k ∨ R := fun W s w C Γ d' k R hΓ hc hw hl hk => call_by hΓ text_own ⟨w, s, by rw [hc, hw], hl, by rw [hw] at hk; exact hk⟩
 have callL : ∀ (J C s : List (List PS)) (its : List It) (Γ : Ctx) (d' : Nat) (k : List PR → Prop) (R : Prop), Γ = ctx Tryd.prog d' → C = rowsOf its → J = orowsOf its → bulks its ≤ 2 ^ 40 → k [.ao (olx J)] → Γ.g 14 [.s (.sl C s)] (fun rs => shutRs rs ∧ k rs) ∨ R := fun J C s its Γ d' k R hΓ hC hJ hl hk => call_by hΓ list_own ⟨its, s, by rw [hC], hl, by rw [← hJ]; exact ⟨by rw [hJ]; exact olx_shut its, hk⟩⟩
 have hel : es.length ≤ bulks (esIts es) := by
  have h1 := bulks_len (esIts es)
  have h2 : (esIts es).length = es.length := List.length_map ..
  omega
 rw [← hX] at hargs
 subst hargs
 conv => cbv
 refine .inr ⟨{ q : Nat × Int × List (List PS) // q.1 ≤ es.length ∧ q.2.1 = q.1 ∧ q.2.2 = orowsOf (esIts (es.take q.1)) },
  fun q => ⟨mk 45 [(2, .s (.ptr 0 0)), (3, .s (.lit .i64 0)), (4, .s (.own 1)), (10, .s (.p (.sl X s))), (11, pint (ar.len X)), (12, pint q.1.2.1)], [.box [.c (.bl false), .c .nil, .c .nil], .tre q.1.2.2 [] 52 3 56 none]⟩,
  fun q => es.length - q.1.1, [.ntre 4 52], _, ⟨(0, 0, []), Nat.zero_le _, rfl, rfl⟩, rfl, ?_, ?_⟩
 ·conv => cbv
  simp
 ·rintro ⟨⟨p, pi, Z⟩, hq⟩
  have hp : p ≤ es.length := hq.1
  have hpi : pi = (p : Int) := hq.2.1
  have hZ : Z = orowsOf (esIts (es.take p)) := hq.2.2
  dsimp only
  conv => cbv
  refine ⟨fun h => ?_, fun h => ?_⟩
  ·have g := cLt har (b := ar.len X) h
   have hlt : p < es.length := by omega
   obtain ⟨e, hx⟩ : ∃ e, es[p]? = some e := ⟨_, List.getElem?_eq_getElem hlt⟩
   obtain ⟨ea, ek, es1⟩ := e
   obtain ⟨xv, hxv⟩ : ∃ xv, xv = u8s ea := ⟨_, rfl⟩
   obtain ⟨xl, hxl⟩ : ∃ xl, xl = ek.map key := ⟨_, rfl⟩
   have rx : X[pi.toNat]? = some [.r 20 xv, .c (.sl xl es1)] := by rw [hX, hpi]; simp [hx, Ent.row, hxv, hxl]
   conv => cbv
   refine ⟨_, by omega, rx, rfl, ?_⟩
   conv => cbv
   have hE := hlen _ (List.mem_of_getElem? hx)
   have hE1 : ea.length = 20 := hE.1
   have hE2 : ∀ w ∈ ek, w.length = 32 := hE.2
   have hEb : (entIt ea ek).bulk ≤ bulks (esIts es) := bulk_get (its := esIts es) (p := p) (by simp only [esIts, List.getElem?_map, hx]; rfl)
   rw [ent_bulk] at hEb
   have hkb : ek.length ≤ ksB ek := by have := bulks_len (ksIts ek); rw [ksIts, List.length_map] at this; exact this
   have hxll : ar.len xl = (ek.length : Int) := by rw [lenIs har, hxl, List.length_map]
   refine .inr ⟨{ q : Nat × Int × List (List PS) // q.1 ≤ ek.length ∧ q.2.1 = q.1 ∧ q.2.2 = orowsOf (ksIts (ek.take q.1)) },
    fun q => ⟨mk 45 [(2, .s (.ptr 0 0)), (3, .s (.lit .i64 0)), (4, .s (.own 1)), (6, .s (.ptr 2 0)), (7, .s (.own 3)), (10, .s (.p (.sl X s))), (11, pint (ar.len X)), (12, pint pi), (17, .s (.p (.sl xl es1))), (18, pint (ar.len xl)), (19, pint q.1.2.1)], [.box [.c (.bl false), .c .nil, .c .nil], .tre Z [] 52 3 56 none, .box [.r 20 xv, .c (.p (.sl xl es1))], .tre q.1.2.2 [] 52 3 56 none]⟩,
    fun q => ek.length - q.1.1, [.ntre 7 52], _, ⟨(0, 0, []), Nat.zero_le _, rfl, rfl⟩, rfl, ?_, ?_⟩
   ·conv => cbv
    simp
   ·rintro ⟨⟨r, ri, Y⟩, hr⟩
    have hrp : r ≤ ek.length := hr.1
    have hri : ri = (r : Int) := hr.2.1
    have hY : Y = orowsOf (ksIts (ek.take r)) := hr.2.2
    dsimp only
    conv => cbv
    refine ⟨fun h => ?_, fun h => ?_⟩
    ·have g' := cLt har (b := ar.len xl) h
     have hrl : r < ek.length := by omega
     obtain ⟨w, hw⟩ : ∃ w, ek[r]? = some w := ⟨_, List.getElem?_eq_getElem hrl⟩
     have hw32 : w.length = 32 := hE2 w (List.mem_of_getElem? hw)
     obtain ⟨wv, hwv⟩ : ∃ wv, wv = u8s w := ⟨_, rfl⟩
     obtain ⟨W, hW⟩ : ∃ W, W = w.map b8 := ⟨_, rfl⟩
     have hcw : ar.cells wv = W := by rw [hwv, hW, bytes_cells ar har]
     have rw1 : xl[ri.toNat]? = some [.r 32 wv] := by rw [hxl, hri]; simp [hw, key, hwv]
     conv => cbv
     refine ⟨_, by omega, rw1, rfl, ?_⟩
     conv => cbv
     refine callX W [] w _ _ _ _ _ hΓ hcw hW (by omega) ?_
     conv => cbv
     have s1 : 0 < 1 ∧ (Y.length + 1) * 56 ≤ 140737488355328 ∧ ∀ y ∈ [otx W], rlen y = 3 := ⟨by omega, by rw [hY, orowsOf_length, ksIts, List.length_map, List.length_take]; omega, by simp [otx, rlen, PS.len]⟩
     have hY2 : ar.app Y [otx W] = orowsOf (ksIts (ek.take (r + 1))) := by
      rw [appIs har, hY, take_succ_get hw, ksIts, ksIts, List.map_append, orowsOf_append, hW]; rfl
     refine ⟨fun _ => s1, ?_⟩
     refine ⟨⟨(r + 1, ar.ib .add .i64 ri 1, ar.app Y [otx W]), hrl, iSucc har hri (by omega), hY2⟩, ?_, ?_⟩
     ·dsimp only
      conv => cbv
      simp
     ·show ek.length - (r + 1) < ek.length - r
      omega
    ·have g' := cNlt har (b := ar.len xl) h
     have hre : r = ek.length := by omega
     rw [hre, List.take_length] at hY
     obtain ⟨V, hV⟩ : ∃ W, W = ea.map b8 := ⟨_, rfl⟩
     have hcv : ar.cells xv = V := by rw [hxv, hV, bytes_cells ar har]
     have hG4 : bulks [It.txt ea, It.lst (ksIts ek)] ≤ 2 ^ 40 := by
      have e := ent_bulk ea ek
      rw [entIt, It.lst, It.bulk, List.length_nil] at e
      omega
     have f0 := frz0 har
     have fY : ar.frz Y = rowsOf (ksIts ek) := by rw [hY, frzO har, strips_ks]
     have fV : ar.frz V = V := by rw [hV, frzB har]
     obtain ⟨G, hG⟩ : ∃ G, G = orowsOf [It.txt ea, It.lst (ksIts ek)] := ⟨_, rfl⟩
     have hG3 : [[PS.c (.v (.bool false)), .c (.sl (ar.frz V) (ar.frz [])), .c (.sl (ar.frz []) (ar.frz []))], [.c (.v (.bool true)), .c (.sl (ar.frz []) (ar.frz [])), .c (.sl (ar.frz (orowsOf (ksIts ek))) (ar.frz []))]] = rowsOf [It.txt ea, It.lst (ksIts ek)] := by
      rw [f0, fV, frzO har, strips_ks, hV]; rfl
     have s1 : 0 < 1 ∧ (Z.length + 1) * 56 ≤ 140737488355328 ∧ ∀ y ∈ [olx G], rlen y = 3 := ⟨by omega, by
      rw [hZ, orowsOf_length, esIts, List.length_map, List.length_take]
      omega, by simp [olx, rlen, PS.len]⟩
     have hZ2 : ar.app Z [olx G] = orowsOf (esIts (es.take (p + 1))) := by
      rw [appIs har, hZ, take_succ_get hx, esIts, esIts, List.map_append, orowsOf_append, hG]; rfl
     conv => cbv
     refine callX V [] ea _ _ _ _ _ hΓ hcv hV (by omega) ?_
     conv => cbv
     refine callL Y _ _ (ksIts ek) _ _ _ _ hΓ fY hY (by show ksB ek ≤ _; omega) ?_
     conv => cbv
     refine callL G _ _ [It.txt ea, It.lst (ksIts ek)] _ _ _ _ hΓ (by rw [hY]; exact hG3) hG hG4 ?_
     conv => cbv
     refine ⟨fun _ => s1, ?_⟩
     refine ⟨⟨(p + 1, ar.ib .add .i64 pi 1, ar.app Z [olx G]), hlt, iSucc har hpi (by omega), hZ2⟩, ?_, ?_⟩
     ·dsimp only
      conv => cbv
      simp
     ·show es.length - (p + 1) < es.length - p
      omega
  ·have g := cNlt har (b := ar.len X) h
   have hpe : p = es.length := by omega
   rw [hpe, List.take_length] at hZ
   have fZ : ar.frz Z = rowsOf (esIts es) := by rw [hZ, frzO har, strips_es]
   have f0 := frz0 har
   obtain ⟨er, her⟩ : ∃ z : Int, z = (errOf (It.lst (esIts es)) : Nat) := ⟨_, rfl⟩
   have callS : ∀ (Γ : Ctx) (d' : Nat) (k : List PR → Prop) (R : Prop), Γ = ctx Tryd.prog d' → (∀ z, k [.s (.v (.int .i64 z)), .s (.v (.int .i64 er))]) → Γ.g 40 [.a [.c (.v (.bool true)), .c (.sl (ar.frz []) (ar.frz [])), .c (.sl (ar.frz Z) (ar.frz []))]] k ∨ R := fun Γ d' k R hΓ hk => call_by hΓ rsize_sound ⟨It.lst (esIts es), by rw [fZ, f0]; rfl, by simp only [It.lst, It.bulk, List.length_nil]; omega, by rw [← her]; exact hk _⟩
   have hgood : er = 0 → k [.ao (olx Z), .s (.v (.int .i64 0))] := fun h => by
    have h2 : errOf (It.lst (esIts es)) = 0 := by omega
    rw [if_pos h2, if_pos h2] at hk
    rw [hZ]; exact hk
   have hbad : er ≠ 0 → k [.ao (otx []), .s (.v (.int .i64 2))] := fun h => by
    have h2 : ¬ errOf (It.lst (esIts es)) = 0 := by omega
    rw [if_neg h2, if_neg h2] at hk
    exact hk
   clear hk
   conv => cbv
   refine callL Z _ _ (esIts es) _ _ _ _ hΓ fZ hZ (by omega) ?_
   conv => cbv
   refine call_in har hΓ Tryd.func80 rfl fun Γ1 hΓ1 vs1 => ?_
   conv => cbv
   refine callS _ _ _ _ hΓ1 fun z => ?_
   conv => cbv
   refine ⟨fun h => ?_, fun h => ?_⟩
   ·have g2 := cNe har (a := er) (b := 0) h
    have hk := hbad g2
    conv => cbv
    exact ⟨[.ao (otx []), .s (.v (.int .i64 2))], ⟨⟨rfl, ⟨rfl, rfl, by decide⟩, ⟨rfl, rfl, by decide⟩, trivial⟩, rfl, trivial⟩, hk⟩
   ·have g2 := cNne har (a := er) (b := 0) h
    have hk := hgood g2
    conv => cbv
    exact ⟨[.ao (olx Z), .s (.v (.int .i64 0))], ⟨⟨rfl, rfl, rfl, trivial⟩, rfl, trivial⟩, hk⟩
end Go.Eng
namespace Go.Eng
open Go Go.Proofs
set_option maxRecDepth 100000
set_option maxHeartbeats 4000000
set_option linter.unusedVariables false
theorem u256Bytes_own : Sound Tryd.prog 29 fun args k => ∃ n : Nat, args = [pw n] ∧ n < M256 ∧ k [.s (oB ((be n (blen n)).map b8))] := by
 refine Sound.of_bodyT [] 0 tt_ok ent_ok Tryd.func29 rfl ?_
 rintro ar har Γ hΓ args k ⟨n, hargs, hn, hk⟩
 obtain ⟨x, hx⟩ : ∃ x, x = w4 n := ⟨_, rfl⟩
 obtain ⟨bs, hbs⟩ : ∃ bs, bs = u8s (be n 32) := ⟨_, rfl⟩
 obtain ⟨b, hb⟩ : ∃ b : Int, b = (bl n : Int) := ⟨_, rfl⟩
 have hput : ∀ (Γ : Ctx) (d' : Nat) (k : List PR → Prop) (R : Prop), Γ = ctx Tryd.prog d' → k [.a [.r 32 bs]] → Γ.g 47 [.a [.r 4 x]] k ∨ R := fun Γ d' k R hΓ hk => call_by hΓ u256Put_sound ⟨n, by unfold pw; rw [hx], by rw [← hbs]; exact hk⟩
 have hlen : ∀ (Γ : Ctx) (d' : Nat) (k : List PR → Prop) (R : Prop), Γ = ctx Tryd.prog d' → k [.s (.v (.int .i64 b))] → Γ.g 48 [.a [.r 4 x]] k ∨ R := fun Γ d' k R hΓ hk => call_by hΓ u256Len_sound ⟨n, by unfold pw; rw [hx], hn, by rw [← hb]; exact hk⟩
 have hble := bl_le256 hn
 have hbl := blen_le hn
 have e0 : ar.ib .add .i64 b 7 = ((bl n + 7 : Nat) : Int) := by rw [iAdd har (by omega)]; omega
 have e1 : ar.ib .quo .i64 (ar.ib .add .i64 b 7) 8 = ((blen n : Nat) : Int) := by rw [e0]; exact iQuo har (b := 8) (by omega)
 have e2 : ar.ib .sub .i64 32 (ar.ib .quo .i64 (ar.ib .add .i64 b 7) 8) = ((32 - blen n : Nat) : Int) := by rw [e1, iSub har (by omega)]; omega
 have hcells : ar.cells bs = (be n 32).map b8 := by rw [cellsIs har, hbs, cells_b8]
 have hcl : (ar.cells bs).length = 32 := by rw [hcells, List.length_map, be_length]
 have hfrm : ar.frm (ar.cells bs) (ar.nat (ar.ib .sub .i64 32 (ar.ib .quo .i64 (ar.ib .add .i64 b 7) 8))) = (be n (blen n)).map b8 := by
  rw [natOf har e2, frmIs har, hcells, ← List.map_drop]
  have := be_drop n (32 - blen n) (blen n)
  rw [show 32 - blen n + blen n = 32 by omega] at this
  rw [this]
 have hres : ar.app [] (ar.frm (ar.cells bs) (ar.nat (ar.ib .sub .i64 32 (ar.ib .quo .i64 (ar.ib .add .i64 b 7) 8)))) = (be n (blen n)).map b8 := by rw [appIs har, hfrm]; rfl
 have s1 : 0 ≤ ar.ib .sub .i64 32 (ar.ib .quo .i64 (ar.ib .add .i64 b 7) 8) ∧ ar.ib .sub .i64 32 (ar.ib .quo .i64 (ar.ib .add .i64 b 7) 8) ≤ (((ar.cells bs).length : Nat) : Int) ∧ (∀ z ∈ ar.cells bs, rlen z = 1) ∧ ∀ z ∈ ([] : List (List PS)), rlen z = 1 :=
  ⟨by rw [e2]; omega, by rw [e2, hcl]; omega, by rw [hcells]; exact b8_all _, by simp⟩
 have s2 : (0 + (ar.frm (ar.cells bs) (ar.nat (ar.ib .sub .i64 32 (ar.ib .quo .i64 (ar.ib .add .i64 b 7) 8)))).length) * 1 ≤ 140737488355328 ∧ ∀ y ∈ ar.frm (ar.cells bs) (ar.nat (ar.ib .sub .i64 32 (ar.ib .quo .i64 (ar.ib .add .i64 b 7) 8))), rlen y = 1 := by
  rw [hfrm]
  exact ⟨by rw [List.length_map, be_length]; omega, b8_all _⟩
 rw [← hres] at hk
 unfold pw at hargs
 rw [← hx] at hargs
 subst hargs
 conv => cbv
 refine hput _ _ _ _ hΓ ?_
 conv => cbv
 refine hlen _ _ _ _ hΓ ?_
 conv => cbv
 exact ⟨fun _ => s1, fun _ => s2, [.s (oB _)], ⟨⟨rfl, rfl, rfl, rfl, rfl⟩, trivial⟩, hk⟩
theorem rNumber_own : Sound Tryd.prog 12 fun args k => ∃ n : Nat, args = [pw n] ∧ n < M256 ∧ k [.ao (otx ((numB n).map b8))] := by
 refine Sound.of_bodyT [] 0 tt_ok ent_ok Tryd.func12 rfl ?_
 rintro ar har Γ hΓ args k ⟨n, hargs, hn, hk⟩
 obtain ⟨x, hx⟩ : ∃ x, x = w4 n := ⟨_, rfl⟩
 obtain ⟨D, hD⟩ : ∃ D, D = (numB n).map b8 := ⟨_, rfl⟩
 have hk : k [.ao (otx D)] := by rw [hD]; exact hk
 have hcall : ∀ (Γ : Ctx) (d' : Nat) (k : List PR → Prop) (R : Prop), Γ = ctx Tryd.prog d' → k [.s (oB D)] → Γ.g 29 [.a [.r 4 x]] k ∨ R := fun Γ d' k R hΓ hk => call_by hΓ u256Bytes_own ⟨n, by rw [hx], hn, by rw [hD] at hk; exact hk⟩
 unfold pw at hargs
 rw [← hx] at hargs
 subst hargs
 conv => cbv
 refine hcall _ _ _ _ hΓ ?_
 conv => cbv
 exact ⟨[.ao (otx D)], ⟨⟨rfl, rfl, ⟨rfl, rfl, by decide⟩, trivial⟩, trivial⟩, hk⟩
theorem rSmall_own : Sound Tryd.prog 60 fun args k => ∃ n : Nat, args = [.s (.v (.int .u64 n))] ∧ n < 18446744073709551616 ∧ k [.ao (otx ((numB n).map b8))] := by
 refine Sound.of_bodyT [] 0 tt_ok ent_ok Tryd.func60 rfl ?_
 rintro ar har Γ hΓ args k ⟨n, hargs, hn, hk⟩
 obtain ⟨z, hz⟩ : ∃ z : Int, z = (n : Int) := ⟨_, rfl⟩
 obtain ⟨x, hx⟩ : ∃ x, x = w4 n := ⟨_, rfl⟩
 obtain ⟨D, hD⟩ : ∃ D, D = (numB n).map b8 := ⟨_, rfl⟩
 have hk : k [.ao (otx D)] := by rw [hD]; exact hk
 have hcall1 : ∀ (Γ : Ctx) (d' : Nat) (k : List PR → Prop) (R : Prop), Γ = ctx Tryd.prog d' → k [.a [.r 4 x]] → Γ.g 37 [.s (.v (.int .u64 z))] k ∨ R := fun Γ d' k R hΓ hk => call_by hΓ u256From_sound ⟨n, by rw [hz], hn, by unfold pw; rw [← hx]; exact hk⟩
 have hcall2 : ∀ (Γ : Ctx) (d' : Nat) (k : List PR → Prop) (R : Prop), Γ = ctx Tryd.prog d' → k [.ao (otx D)] → Γ.g 12 [.a [.r 4 x]] k ∨ R := fun Γ d' k R hΓ hk => call_by hΓ rNumber_own ⟨n, by unfold pw; rw [hx], by unfold M256; omega, by rw [hD] at hk; exact hk⟩
 rw [← hz] at hargs
 subst hargs
 conv => cbv
 refine hcall1 _ _ _ _ hΓ ?_
 conv => cbv
 refine hcall2 _ _ _ _ hΓ ?_
 conv => cbv
 exact ⟨[.ao (otx D)], ⟨⟨rfl, rfl, rfl, trivial⟩, trivial⟩, hk⟩
def authItO (us : List Au) : List PR := if wideU us = true then [.ao It.zero.orow, .s (.v (.int .i64 141))] else [.ao (if errOf (It.lst (usIts us)) = 0 then It.lst (usIts us) else .zero).orow, .s (.v (.int .i64 (if errOf (It.lst (usIts us)) = 0 then 0 else 2)))]
theorem authItem_own : Sound Tryd.prog 63 fun args k => ∃ (us : List Au) (s : List (List PS)), args = [.s (.sl (us.map Au.row) s)] ∧ (∀ u ∈ us, u.ok) ∧ us.length ≤ 2 ^ 30 ∧ k (authItO us) := by
 refine Sound.of_bodyT [] 1 tt_ok ent_ok Tryd.func63 rfl ?_
 rintro ar har Γ hΓ args k ⟨us, s, hargs, hok, hb, hk⟩
 obtain ⟨X, hX⟩ : ∃ X, X = us.map Au.row := ⟨_, rfl⟩
 have hXl : ar.len X = (us.length : Int) := by rw [lenIs har, hX, List.length_map]
 have callX : ∀ (W s : List (List PS)) (w : List Int) (C : List (List PS)) (Γ : Ctx) (d' : Nat) (k : List PR → Prop), Γ = ctx Tryd.prog d' → C = W → W = w.map b8 → w.length ≤ 2 ^ 40 → k [.ao (otx W)] → Γ.g 61 [.s (.sl C s)] k := fun W s w C Γ d' k hΓ hc hw hl hk => call_by' hΓ text_own ⟨w, s, by rw [hc, hw], hl, by rw [hw] at hk; exact hk⟩
 have callL : ∀ (J C s : List (List PS)) (its : List It) (Γ : Ctx) (d' : Nat) (k : List PR → Prop), Γ = ctx Tryd.prog d' → C = rowsOf its → J = orowsOf its → bulks its ≤ 2 ^ 40 → k [.ao (olx J)] → Γ.g 14 [.s (.sl C s)] (fun rs => shutRs rs ∧ k rs) := fun J C s its Γ d' k hΓ hC hJ hl hk => call_by' hΓ list_own ⟨its, s, by rw [hC], hl, by rw [← hJ]; exact ⟨by rw [hJ]; exact olx_shut its, hk⟩⟩
 have callN : ∀ (n : Nat) (x : List Value) (D : List (List PS)) (Γ : Ctx) (d' : Nat) (k : List PR → Prop), Γ = ctx Tryd.prog d' → x = w4 n → n < M256 → D = (numB n).map b8 → k [.ao (otx D)] → Γ.g 12 [.a [.r 4 x]] k := fun n x D Γ d' k hΓ hx hn hD hk => call_by' hΓ rNumber_own ⟨n, by unfold pw; rw [hx], hn, by rw [hD] at hk; exact hk⟩
 have callS : ∀ (n : Nat) (z : Int) (D : List (List PS)) (Γ : Ctx) (d' : Nat) (k : List PR → Prop), Γ = ctx Tryd.prog d' → z = n → n < 18446744073709551616 → D = (numB n).map b8 → k [.ao (otx D)] → Γ.g 60 [.s (.v (.int .u64 z))] k := fun n z D Γ d' k hΓ hz hn hD hk => call_by' hΓ rSmall_own ⟨n, by rw [hz], hn, by rw [hD] at hk; exact hk⟩
 have hub := us_bulk us hok
 rw [← hX] at hargs
 subst hargs
 conv => cbv
 refine .inr ⟨{ q : Nat × Int × List (List PS) // q.1 ≤ us.length ∧ q.2.1 = q.1 ∧ q.2.2 = orowsOf (usIts (us.take q.1)) ∧ wideU (us.take q.1) = false },
  fun q => ⟨mk 46 [(2, .s (.ptr 0 0)), (3, .s (.lit .i64 0)), (4, .s (.own 1)), (7, .s (.p (.sl X s))), (8, pint (ar.len X)), (9, pint q.1.2.1)], [.box [.c (.bl false), .c .nil, .c .nil], .tre q.1.2.2 [] 52 3 56 none]⟩,
  fun q => us.length - q.1.1, [.ntre 4 52], _, ⟨(0, 0, []), Nat.zero_le _, rfl, rfl, rfl⟩, rfl, ?_, ?_⟩
 ·conv => cbv
  simp
 ·rintro ⟨⟨p, pi, Z⟩, hq⟩
  have hp : p ≤ us.length := hq.1
  have hpi : pi = (p : Int) := hq.2.1
  have hZ : Z = orowsOf (usIts (us.take p)) := hq.2.2.1
  have hw : wideU (us.take p) = false := hq.2.2.2
  dsimp only
  conv => cbv
  refine ⟨fun h => ?_, fun h => ?_⟩
  ·have g := cLt har (b := ar.len X) h
   have hlt : p < us.length := by omega
   obtain ⟨u, hx⟩ : ∃ e, us[p]? = some e := ⟨_, List.getElem?_eq_getElem hlt⟩
   have huk := hok u (List.mem_of_getElem? hx)
   have hpb := parts_bulk huk
   obtain ⟨c1, hc1⟩ : ∃ x, x = w4 u.ch := ⟨_, rfl⟩
   obtain ⟨c2, hc2⟩ : ∃ x, x = u8s u.a := ⟨_, rfl⟩
   obtain ⟨c3, hc3⟩ : ∃ x : Int, x = u.no := ⟨_, rfl⟩
   obtain ⟨c4, hc4⟩ : ∃ x : Int, x = u.pa := ⟨_, rfl⟩
   obtain ⟨c5, hc5⟩ : ∃ x, x = w4 u.r := ⟨_, rfl⟩
   obtain ⟨c6, hc6⟩ : ∃ x, x = w4 u.s := ⟨_, rfl⟩
   obtain ⟨D1, hD1⟩ : ∃ x, x = (numB u.ch).map b8 := ⟨_, rfl⟩
   obtain ⟨D2, hD2⟩ : ∃ x, x = u.a.map b8 := ⟨_, rfl⟩
   obtain ⟨D3, hD3⟩ : ∃ x, x = (numB u.no).map b8 := ⟨_, rfl⟩
   obtain ⟨D4, hD4⟩ : ∃ x, x = (numB u.pa).map b8 := ⟨_, rfl⟩
   obtain ⟨D5, hD5⟩ : ∃ x, x = (numB u.r).map b8 := ⟨_, rfl⟩
   obtain ⟨D6, hD6⟩ : ∃ x, x = (numB u.s).map b8 := ⟨_, rfl⟩
   have rx : X[pi.toNat]? = some [.r 4 c1, .r 20 c2, .c (.v (.int .u64 c3)), .c (.v (.int .u64 c4)), .r 4 c5, .r 4 c6] := by rw [hX, hpi]; simp [hx, Au.row, hc1, hc2, hc3, hc4, hc5, hc6]
   have hcc : ar.cells c2 = D2 := by rw [hc2, hD2, bytes_cells ar har]
   obtain ⟨u1, u2, u3, u4, u5, u6⟩ := huk
   have wide1 : c4 > 255 → wideU us = true := fun h => by
    rw [wideU, List.any_eq_true]
    exact ⟨u, List.mem_of_getElem? hx, by rw [decide_eq_true_eq]; omega⟩
   have wide2 : ¬ c4 > 255 → wideU (us.take (p + 1)) = false := fun h => by
    rw [wideU, take_succ_get hx, List.any_append, ← wideU, hw, Bool.false_or, List.any_cons, List.any_nil, Bool.or_false, decide_eq_false_iff_not]; omega
   obtain ⟨J, hJ⟩ : ∃ J, J = orowsOf u.parts := ⟨_, rfl⟩
   have f0 := frz0 har
   have fD1 : ar.frz D1 = D1 := by rw [hD1, frzB har]
   have fD2 : ar.frz D2 = D2 := by rw [hD2, frzB har]
   have fD3 : ar.frz D3 = D3 := by rw [hD3, frzB har]
   have fD4 : ar.frz D4 = D4 := by rw [hD4, frzB har]
   have fD5 : ar.frz D5 = D5 := by rw [hD5, frzB har]
   have fD6 : ar.frz D6 = D6 := by rw [hD6, frzB har]
   have hJ2 : [[PS.c (.v (.bool false)), .c (.sl (ar.frz D1) (ar.frz [])), .c (.sl (ar.frz []) (ar.frz []))], [PS.c (.v (.bool false)), .c (.sl (ar.frz D2) (ar.frz [])), .c (.sl (ar.frz []) (ar.frz []))], [PS.c (.v (.bool false)), .c (.sl (ar.frz D3) (ar.frz [])), .c (.sl (ar.frz []) (ar.frz []))], [PS.c (.v (.bool false)), .c (.sl (ar.frz D4) (ar.frz [])), .c (.sl (ar.frz []) (ar.frz []))], [PS.c (.v (.bool false)), .c (.sl (ar.frz D5) (ar.frz [])), .c (.sl (ar.frz []) (ar.frz []))], [PS.c (.v (.bool false)), .c (.sl (ar.frz D6) (ar.frz [])), .c (.sl (ar.frz []) (ar.frz []))]] = rowsOf u.parts := by
    rw [f0, fD1, fD2, fD3, fD4, fD5, fD6, hD1, hD2, hD3, hD4, hD5, hD6]; rfl
   have callJ := fun (Γ : Ctx) (d' : Nat) (k : List PR → Prop) (h1 : Γ = ctx Tryd.prog d') (h2) => callL J _ [] u.parts Γ d' k h1 hJ2 hJ (by omega) h2
   have s1 : 0 < 1 ∧ (Z.length + 1) * 56 ≤ 140737488355328 ∧ ∀ y ∈ [olx J], rlen y = 3 := ⟨by omega, by rw [hZ, orowsOf_length, usIts, List.length_map, List.length_take]; omega, by simp [olx, rlen, PS.len]⟩
   have hZ2 : ar.app Z [olx J] = orowsOf (usIts (us.take (p + 1))) := by
    rw [appIs har, hZ, take_succ_get hx, usIts, usIts, List.map_append, orowsOf_append, hJ]; rfl
   conv => cbv
   refine ⟨_, by omega, rx, rfl, ?_⟩
   conv => cbv
   refine ⟨fun h => ?_, fun h => ?_⟩
   ·have g2 := cGt har (a := c4) (b := 255) h
    rw [authItO, if_pos (wide1 g2)] at hk
    conv => cbv
    exact ⟨[.ao (otx []), .s (.v (.int .i64 141))], ⟨⟨rfl, ⟨rfl, rfl, by decide⟩, ⟨rfl, rfl, by decide⟩, trivial⟩, rfl, trivial⟩, hk⟩
   ·have g2 := cNgt har (a := c4) (b := 255) h
    have hw2 := wide2 (by omega)
    conv => cbv
    refine ⟨by rw [har]; kernel_rfl, ?_⟩
    refine callN u.ch c1 D1 _ _ _ hΓ hc1 u1 hD1 ?_
    conv => cbv
    refine callX D2 [] u.a _ _ _ _ hΓ hcc hD2 (by omega) ?_
    conv => cbv
    refine callS u.no c3 D3 _ _ _ hΓ hc3 u3 hD3 ?_
    conv => cbv
    refine callS u.pa c4 D4 _ _ _ hΓ hc4 u4 hD4 ?_
    conv => cbv
    refine callN u.r c5 D5 _ _ _ hΓ hc5 u5 hD5 ?_
    conv => cbv
    refine callN u.s c6 D6 _ _ _ hΓ hc6 u6 hD6 ?_
    conv => cbv
    refine callJ _ _ _ hΓ ?_
    conv => cbv
    refine ⟨fun _ => s1, ?_⟩
    refine ⟨⟨(p + 1, ar.ib .add .i64 pi 1, ar.app Z [olx J]), hlt, iSucc har hpi (by omega), hZ2, hw2⟩, ?_, ?_⟩
    ·dsimp only
     conv => cbv
     simp
    ·show us.length - (p + 1) < us.length - p
     omega
  ·have g := cNlt har (b := ar.len X) h
   have hpe : p = us.length := by omega
   rw [hpe, List.take_length] at hZ hw
   have fZ : ar.frz Z = rowsOf (usIts us) := by rw [hZ, frzO har, strips_us]
   have f0 := frz0 har
   obtain ⟨er, her⟩ : ∃ z : Int, z = (errOf (It.lst (usIts us)) : Nat) := ⟨_, rfl⟩
   have callS : ∀ (Γ : Ctx) (d' : Nat) (k : List PR → Prop) (R : Prop), Γ = ctx Tryd.prog d' → (∀ z, k [.s (.v (.int .i64 z)), .s (.v (.int .i64 er))]) → Γ.g 40 [.a [.c (.v (.bool true)), .c (.sl (ar.frz []) (ar.frz [])), .c (.sl (ar.frz Z) (ar.frz []))]] k ∨ R := fun Γ d' k R hΓ hk => call_by hΓ rsize_sound ⟨It.lst (usIts us), by rw [fZ, f0]; rfl, by simp only [It.lst, It.bulk, List.length_nil]; omega, by rw [← her]; exact hk _⟩
   rw [authItO, hw, if_neg (by decide)] at hk
   have hgood : er = 0 → k [.ao (olx Z), .s (.v (.int .i64 0))] := fun h => by
    have h2 : errOf (It.lst (usIts us)) = 0 := by omega
    rw [if_pos h2, if_pos h2] at hk
    rw [hZ]; exact hk
   have hbad : er ≠ 0 → k [.ao (otx []), .s (.v (.int .i64 2))] := fun h => by
    have h2 : ¬ errOf (It.lst (usIts us)) = 0 := by omega
    rw [if_neg h2, if_neg h2] at hk
    exact hk
   clear hk
   have callL' : ∀ (J C s : List (List PS)) (Γ : Ctx) (d' : Nat) (k : List PR → Prop) (R : Prop), Γ = ctx Tryd.prog d' → C = rowsOf (usIts us) → J = orowsOf (usIts us) → k [.ao (olx J)] → Γ.g 14 [.s (.sl C s)] (fun rs => shutRs rs ∧ k rs) ∨ R := fun J C s Γ d' k R h1 h2 h3 h4 => .inl (callL J C s (usIts us) Γ d' k h1 h2 h3 (by omega) h4)
   conv => cbv
   refine callL' Z _ _ _ _ _ _ hΓ fZ hZ ?_
   conv => cbv
   refine call_in har hΓ Tryd.func80 rfl fun Γ1 hΓ1 vs1 => ?_
   conv => cbv
   refine callS _ _ _ _ hΓ1 fun z => ?_
   conv => cbv
   refine ⟨fun h => ?_, fun h => ?_⟩
   ·have g2 := cNe har (a := er) (b := 0) h
    have hk := hbad g2
    conv => cbv
    exact ⟨[.ao (otx []), .s (.v (.int .i64 2))], ⟨⟨rfl, ⟨rfl, rfl, by decide⟩, ⟨rfl, rfl, by decide⟩, trivial⟩, rfl, trivial⟩, hk⟩
   ·have g2 := cNne har (a := er) (b := 0) h
    have hk := hgood g2
    conv => cbv
    exact ⟨[.ao (olx Z), .s (.v (.int .i64 0))], ⟨⟨rfl, rfl, rfl, trivial⟩, rfl, trivial⟩, hk⟩
end Go.Eng
namespace Go.Eng
open Go Go.Proofs
set_option maxRecDepth 100000
set_option maxHeartbeats 8000000
set_option linter.unusedVariables false
theorem loosV_refl (x : PV) : loosV x x := by cases x <;> simp [loosV]
theorem loosL_refl : ∀ l : List PS, loosL l l
 | [] => trivial
 | .c x :: l => ⟨loosV_refl x, loosL_refl l⟩
 | .r _ _ :: l => ⟨rfl, rfl, loosL_refl l⟩
theorem loosR_refl : ∀ r : PR, loosR r r
 | .s x => loosV_refl x
 | .a _ => rfl
 | .ao l => loosL_refl l
theorem loosRs_refl : ∀ rs : List PR, loosRs rs rs
 | [] => trivial
 | r :: l => ⟨loosR_refl r, loosRs_refl l⟩
theorem orow3 : ∀ it : It, ∃ l D J, it.orow = [.c (.v (.bool l)), .c (oB D), .c (oI J)]
 | .mk l d _ its _ => ⟨l, d.map b8, orowsOf its, rfl⟩
theorem item_own : Sound Tryd.prog 39 fun args k => ∃ (t : Tx) (f : Int), args = [.a t.row, .s (.v (.int .i64 f))] ∧ t.ok ∧ t.fit ∧ k [.ao (itemP t f).1.orow, .s (.v (.int .i64 (itemP t f).2))] := by
 refine Sound.of_bodyT [] 1 tt_ok ent_ok Tryd.func39 rfl ?_
 rintro ar har Γ hΓ args k ⟨⟨tty, tch, tno, tpr, tti, tca, tga, tcr, tto, tva, td, tsd, tac, tsac, tbc, tbl, tsbl, tau, tsau, tv, tr, ts⟩, f, hargs, hto, hft, hk⟩
 obtain ⟨t, ht⟩ : ∃ t, t = Tx.mk tty tch tno tpr tti tca tga tcr tto tva td tsd tac tsac tbc tbl tsbl tau tsau tv tr ts := ⟨_, rfl⟩
 obtain ⟨tWpr, thWpr⟩ : ∃ x, x = w4 tpr := ⟨_, rfl⟩
 obtain ⟨tWti, thWti⟩ : ∃ x, x = w4 tti := ⟨_, rfl⟩
 obtain ⟨tWca, thWca⟩ : ∃ x, x = w4 tca := ⟨_, rfl⟩
 obtain ⟨tWva, thWva⟩ : ∃ x, x = w4 tva := ⟨_, rfl⟩
 obtain ⟨tWbc, thWbc⟩ : ∃ x, x = w4 tbc := ⟨_, rfl⟩
 obtain ⟨tWv, thWv⟩ : ∃ x, x = w4 tv := ⟨_, rfl⟩
 obtain ⟨tWr, thWr⟩ : ∃ x, x = w4 tr := ⟨_, rfl⟩
 obtain ⟨tWs, thWs⟩ : ∃ x, x = w4 ts := ⟨_, rfl⟩
 obtain ⟨tWto, thWto⟩ : ∃ x, x = u8s tto := ⟨_, rfl⟩
 obtain ⟨tD, thD⟩ : ∃ x, x = td.map b8' := ⟨_, rfl⟩
 obtain ⟨tA, thA⟩ : ∃ x, x = tac.map Ent.row := ⟨_, rfl⟩
 obtain ⟨tB, thB⟩ : ∃ x, x = tbl.map key := ⟨_, rfl⟩
 obtain ⟨tU, thU⟩ : ∃ x, x = tau.map Au.row := ⟨_, rfl⟩
 obtain ⟨tIch, thIch⟩ : ∃ x : Int, x = (tch : Int) := ⟨_, rfl⟩
 obtain ⟨tIno, thIno⟩ : ∃ x : Int, x = (tno : Int) := ⟨_, rfl⟩
 obtain ⟨tIga, thIga⟩ : ∃ x : Int, x = (tga : Int) := ⟨_, rfl⟩
 have hrow : t.row = [.c (.v (.int .i64 tty)), .c (.v (.int .u64 tIch)), .c (.v (.int .u64 tIno)), .r 4 tWpr, .r 4 tWti, .r 4 tWca, .c (.v (.int .u64 tIga)), .c (.v (.bool tcr)), .r 20 tWto, .r 4 tWva, .c (.sl tD tsd), .c (.sl tA tsac), .r 4 tWbc, .c (.sl tB tsbl), .c (.sl tU tsau), .r 4 tWv, .r 4 tWr, .r 4 tWs] := by rw [ht]; exact (by rw [thWpr, thWti, thWca, thWva, thWbc, thWv, thWr, thWs, thWto, thD, thA, thB, thU, thIch, thIno, thIga]; rfl)
 rw [← ht] at hargs hto hft hk
 have callS : ∀ (n : Nat) (z : Int) (D : List (List PS)) (Γ : Ctx) (d' : Nat) (k : List PR → Prop) (R : Prop), Γ = ctx Tryd.prog d' → z = n → n < 18446744073709551616 → D = (numB n).map b8 → k [.ao (otx D)] → Γ.g 60 [.s (.v (.int .u64 z))] k ∨ R := fun n z D Γ d' k R hΓ hz hn hD hk => call_by hΓ rSmall_own ⟨n, by rw [hz], hn, by rw [hD] at hk; exact hk⟩
 have callN : ∀ (n : Nat) (x : List Value) (D : List (List PS)) (Γ : Ctx) (d' : Nat) (k : List PR → Prop) (R : Prop), Γ = ctx Tryd.prog d' → x = w4 n → n < M256 → D = (numB n).map b8 → k [.ao (otx D)] → Γ.g 12 [.a [.r 4 x]] k ∨ R := fun n x D Γ d' k R hΓ hx hn hD hk => call_by hΓ rNumber_own ⟨n, by unfold pw; rw [hx], hn, by rw [hD] at hk; exact hk⟩
 have callX : ∀ (W s : List (List PS)) (w : List Int) (C : List (List PS)) (Γ : Ctx) (d' : Nat) (k : List PR → Prop) (R : Prop), Γ = ctx Tryd.prog d' → C = W → W = w.map b8 → w.length ≤ 2 ^ 40 → k [.ao (otx W)] → Γ.g 61 [.s (.sl C s)] k ∨ R := fun W s w C Γ d' k R hΓ hc hw hl hk => call_by hΓ text_own ⟨w, s, by rw [hc, hw], hl, by rw [hw] at hk; exact hk⟩
 have callL : ∀ (J C s : List (List PS)) (its : List It) (Γ : Ctx) (d' : Nat) (k : List PR → Prop) (R : Prop), Γ = ctx Tryd.prog d' → C = rowsOf its → J = orowsOf its → bulks its ≤ 2 ^ 40 → k [.ao (olx J)] → Γ.g 14 [.s (.sl C s)] (fun rs => shutRs rs ∧ k rs) ∨ R := fun J C s its Γ d' k R hΓ hC hJ hl hk => call_by hΓ list_own ⟨its, s, by rw [hC], hl, by rw [← hJ]; exact ⟨by rw [hJ]; exact olx_shut its, hk⟩⟩
 have hbl : ∀ w ∈ tbl, w.length = 32 := fun w hw => (hto.bl w (by rw [ht]; exact hw)).1
 have hbn : 33 * tbl.length ≤ 2 ^ 28 := by have := hft.bl; rw [ht] at this; exact this
 have hBl : ar.len tB = (tbl.length : Int) := by rw [lenIs har, thB, List.length_map]
 have hkb := ks_bulk tbl hbl
 obtain ⟨aI, haI⟩ : ∃ x, x = fitP (It.lst (esIts tac)) := ⟨_, rfl⟩
 obtain ⟨uI, huI⟩ : ∃ x, x = (if wideU tau = true then ((.zero, 141) : It × Int) else fitP (It.lst (usIts tau))) := ⟨_, rfl⟩
 obtain ⟨ab, aD, aJ, haR⟩ := orow3 aI.1
 obtain ⟨ub, uD, uJ, huR⟩ := orow3 uI.1
 obtain ⟨ae, hae⟩ : ∃ x, x = aI.2 := ⟨_, rfl⟩
 obtain ⟨ue, hue⟩ : ∃ x, x = uI.2 := ⟨_, rfl⟩
 have callA : ∀ (Γ : Ctx) (d' : Nat) (k : List PR → Prop) (R : Prop), Γ = ctx Tryd.prog d' → k [.ao [.c (.v (.bool ab)), .c (oB aD), .c (oI aJ)], .s (.v (.int .i64 ae))] → Γ.g 62 [.s (.sl tA tsac)] k ∨ R := fun Γ d' k R hΓ hk => call_by hΓ accItem_own ⟨tac, tsac, by rw [thA], fun e he => by have := hto.ac e (by rw [ht]; exact he); exact ⟨this.1, fun w hw => (this.2.2 w hw).1⟩, by have := hft.ac; rw [ht] at this; simp only at this; omega, by
  have e1 : (if errOf (It.lst (esIts tac)) = 0 then It.lst (esIts tac) else .zero) = aI.1 := by rw [haI, fitP]; split <;> rfl
  have e2 : (if errOf (It.lst (esIts tac)) = 0 then (0 : Int) else 2) = aI.2 := by rw [haI, fitP]; split <;> rfl
  rw [e1, e2, haR, ← hae]; exact hk⟩
 have hun : tau.length ≤ 2 ^ 30 := by
  have h1 := bulks_len (usIts tau)
  have h2 : (usIts tau).length = tau.length := List.length_map ..
  have h3 := hft.au
  rw [ht] at h3
  simp only at h3
  omega
 have callU : ∀ (Γ : Ctx) (d' : Nat) (k : List PR → Prop) (R : Prop), Γ = ctx Tryd.prog d' → k [.ao [.c (.v (.bool ub)), .c (oB uD), .c (oI uJ)], .s (.v (.int .i64 ue))] → Γ.g 63 [.s (.sl tU tsau)] k ∨ R := fun Γ d' k R hΓ hk => call_by hΓ authItem_own ⟨tau, tsau, by rw [thU], fun u hu => (hto.au u (by rw [ht]; exact hu)).1, hun, by
  have e1 : authItO tau = [.ao uI.1.orow, .s (.v (.int .i64 uI.2))] := by
   rw [authItO, huI, fitP]
   split
   ·rfl
   ·split <;> rfl
  rw [e1, huR, ← hue]; exact hk⟩
 have hnum : ∀ x, numF t x < M256 := fun x => numF_lt hto x
 have hch : tch < 18446744073709551616 := by have := hto.ch; rw [ht] at this; exact this
 have hno : tno < 18446744073709551616 := by have := hto.no; rw [ht] at this; exact this
 have hga : tga < 18446744073709551616 := by have := hto.ga; rw [ht] at this; exact this
 have hdl : td.length ≤ 2 ^ 40 := by have := hft.d; rw [ht] at this; simp only at this; omega
 have htl : tto.length ≤ 2 ^ 40 := by have := hto.to; rw [ht] at this; simp only at this; omega
 have hI : itemP t f = if f = 0 then (numIt tch, 0) else if f = 1 then (numIt tno, 0) else if f = 5 then (numIt tga, 0) else if f = 6 then (It.txt (if tcr = true then [] else tto), 0) else if f = 8 then (It.txt td, 0) else if f = 9 then aI else if f = 11 then (It.lst (ksIts tbl), 0) else if f = 12 then uI else (numIt (numF t f), 0) := by
  rw [haI, huI, ht]; rfl
 have hN : ∀ x, numF t x = if x = 2 then tpr else if x = 3 then tti else if x = 4 then tca else if x = 7 then tva else if x = 10 then tbc else if x = 13 then tv else if x = 14 then tr else ts := fun x => by rw [ht]; rfl
 have hcells : ar.cells tWto = tto.map b8 := by rw [thWto]; exact bytes_cells ar har tto
 rw [hI] at hk
 rw [hrow] at hargs
 have hrs : ∀ n : Nat, (numIt n).orow = otx ((numB n).map b8) := fun n => rfl
 clear ht hI
 subst hargs
 conv => cbv
 refine ⟨fun h => ?_, fun h => ?_⟩
 ·have g := cEq har (a := f) (b := 0) h
  rw [if_pos g] at hk
  obtain ⟨D, hD⟩ : ∃ D, D = (numB tch).map b8 := ⟨_, rfl⟩
  have hk : k [.ao (otx D), .s (.v (.int .i64 0))] := by rw [hD]; exact hk
  conv => cbv
  refine callS tch _ D _ _ _ _ hΓ thIch hch hD ?_
  conv => cbv
  exact ⟨_, loosRs_refl _, hk⟩
 have g0 := cNeq har (a := f) (b := 0) h
 rw [if_neg g0] at hk
 conv => cbv
 refine ⟨fun h => ?_, fun h => ?_⟩
 ·have g := cEq har (a := f) (b := 1) h
  rw [if_pos g] at hk
  obtain ⟨D, hD⟩ : ∃ D, D = (numB tno).map b8 := ⟨_, rfl⟩
  have hk : k [.ao (otx D), .s (.v (.int .i64 0))] := by rw [hD]; exact hk
  conv => cbv
  refine callS tno _ D _ _ _ _ hΓ thIno hno hD ?_
  conv => cbv
  exact ⟨_, loosRs_refl _, hk⟩
 have g1 := cNeq har (a := f) (b := 1) h
 rw [if_neg g1] at hk
 conv => cbv
 refine ⟨fun h => ?_, fun h => ?_⟩
 ·have g := cEq har (a := f) (b := 5) h
  rw [if_pos g] at hk
  obtain ⟨D, hD⟩ : ∃ D, D = (numB tga).map b8 := ⟨_, rfl⟩
  have hk : k [.ao (otx D), .s (.v (.int .i64 0))] := by rw [hD]; exact hk
  conv => cbv
  refine callS tga _ D _ _ _ _ hΓ thIga hga hD ?_
  conv => cbv
  exact ⟨_, loosRs_refl _, hk⟩
 have g5 := cNeq har (a := f) (b := 5) h
 rw [if_neg g5] at hk
 conv => cbv
 refine ⟨fun h => ?_, fun h => ?_⟩
 ·have g := cEq har (a := f) (b := 6) h
  rw [if_pos g] at hk
  cases tcr with
  | true =>
   rw [if_pos rfl] at hk
   have hk : k [.ao (otx []), .s (.v (.int .i64 0))] := hk
   conv => cbv
   refine onT rfl ?_
   conv => cbv
   refine callX [] [] [] [] _ _ _ _ hΓ rfl rfl (by simp) ?_
   conv => cbv
   exact ⟨_, loosRs_refl _, hk⟩
  | false =>
   rw [if_neg (by decide)] at hk
   obtain ⟨D, hD⟩ : ∃ D, D = tto.map b8 := ⟨_, rfl⟩
   have hk : k [.ao (otx D), .s (.v (.int .i64 0))] := by rw [hD]; exact hk
   conv => cbv
   refine onF rfl ?_
   conv => cbv
   refine callX D [] tto _ _ _ _ _ hΓ (by rw [hD]; exact hcells) hD htl ?_
   conv => cbv
   exact ⟨_, loosRs_refl _, hk⟩
 have g6 := cNeq har (a := f) (b := 6) h
 rw [if_neg g6] at hk
 conv => cbv
 refine ⟨fun h => ?_, fun h => ?_⟩
 ·have g := cEq har (a := f) (b := 8) h
  rw [if_pos g] at hk
  have hk : k [.ao (otx tD), .s (.v (.int .i64 0))] := by rw [thD]; exact hk
  conv => cbv
  refine callX tD tsd td _ _ _ _ _ hΓ rfl (by rw [thD]; rfl) hdl ?_
  conv => cbv
  exact ⟨_, loosRs_refl _, hk⟩
 have g8 := cNeq har (a := f) (b := 8) h
 rw [if_neg g8] at hk
 conv => cbv
 refine ⟨fun h => ?_, fun h => ?_⟩
 ·have g := cEq har (a := f) (b := 9) h
  rw [if_pos g] at hk
  rw [haR, ← hae] at hk
  conv => cbv
  refine callA _ _ _ _ hΓ ?_
  conv => cbv
  exact ⟨_, loosRs_refl _, hk⟩
 have g9 := cNeq har (a := f) (b := 9) h
 rw [if_neg g9] at hk
 conv => cbv
 refine ⟨fun h => ?_, fun h => ?_⟩
 ·have g := cEq har (a := f) (b := 11) h
  rw [if_pos g] at hk
  conv => cbv
  refine .inr ⟨{ q : Nat × Int × List (List PS) // q.1 ≤ tbl.length ∧ q.2.1 = q.1 ∧ q.2.2 = orowsOf (ksIts (tbl.take q.1)) },
   fun q => ⟨mk 74 [(4, .s (.ptr 1 0)), (5, .s (.lit .i64 0)), (6, .s (.own 2)), (48, .s (.p (.sl tB tsbl))), (49, pint (ar.len tB)), (50, pint q.1.2.1)], [.gone, .box [.c (.bl false), .c .nil, .c .nil], .tre q.1.2.2 [] 52 3 56 none]⟩,
   fun q => tbl.length - q.1.1, [.ntre 6 52], _, ⟨(0, 0, []), Nat.zero_le _, rfl, rfl⟩, rfl, ?_, ?_⟩
  ·conv => cbv
   simp
  ·rintro ⟨⟨p, pi, Z⟩, hq⟩
   have hp : p ≤ tbl.length := hq.1
   have hpi : pi = (p : Int) := hq.2.1
   have hZ : Z = orowsOf (ksIts (tbl.take p)) := hq.2.2
   dsimp only
   conv => cbv
   refine ⟨fun h => ?_, fun h => ?_⟩
   ·have g := cLt har (b := ar.len tB) h
    have hlt : p < tbl.length := by omega
    obtain ⟨x, hx⟩ : ∃ x, tbl[p]? = some x := ⟨_, List.getElem?_eq_getElem hlt⟩
    have hxl := hbl x (List.mem_of_getElem? hx)
    obtain ⟨V, hV⟩ : ∃ V, V = u8s x := ⟨_, rfl⟩
    obtain ⟨D, hD⟩ : ∃ D, D = x.map b8 := ⟨_, rfl⟩
    have rx : tB[pi.toNat]? = some [.r 32 V] := by rw [thB, hpi, hV]; simp [hx, key]
    have hc2 : ar.cells V = D := by rw [hV, hD]; exact bytes_cells ar har x
    have hZl : Z.length = p := by rw [hZ, orowsOf_length, ksIts, List.length_map, List.length_take]; omega
    have hZ2 : ar.app Z [otx D] = orowsOf (ksIts (tbl.take (p + 1))) := by
     rw [appIs har, hZ, take_succ_get hx, show ksIts (tbl.take p ++ [x]) = ksIts (tbl.take p) ++ [It.txt x] from by simp [ksIts], orowsOf_append, hD]; rfl
    have s1 : 0 < 1 ∧ (Z.length + 1) * 56 ≤ 140737488355328 ∧ ∀ y ∈ [otx D], rlen y = 3 := ⟨by omega, by omega, fun y hy => by rw [List.mem_singleton] at hy; subst hy; rfl⟩
    conv => cbv
    refine ⟨_, by omega, rx, rfl, ?_⟩
    conv => cbv
    refine callX D [] x _ _ _ _ _ hΓ hc2 hD (by omega) ?_
    conv => cbv
    refine ⟨fun _ => s1, ?_⟩
    refine ⟨⟨(p + 1, ar.ib .add .i64 pi 1, ar.app Z [otx D]), hlt, iSucc har hpi (by omega), hZ2⟩, ?_, ?_⟩
    ·dsimp only
     conv => cbv
     simp
    ·show tbl.length - (p + 1) < tbl.length - p
     omega
   ·have g := cNlt har (b := ar.len tB) h
    have hpe : p = tbl.length := by omega
    have hZe : Z = orowsOf (ksIts tbl) := by rw [hZ, hpe, List.take_length]
    have hk : k [.ao (olx Z), .s (.v (.int .i64 0))] := by rw [hZe]; exact hk
    have fZ : ar.frz Z = rowsOf (ksIts tbl) := by rw [hZe, frzO har, strips_ks]
    conv => cbv
    refine callL Z _ _ (ksIts tbl) _ _ _ _ hΓ fZ hZe (by omega) ?_
    conv => cbv
    exact ⟨_, loosRs_refl _, hk⟩
 have g11 := cNeq har (a := f) (b := 11) h
 rw [if_neg g11] at hk
 conv => cbv
 refine ⟨fun h => ?_, fun h => ?_⟩
 ·have g := cEq har (a := f) (b := 12) h
  rw [if_pos g] at hk
  rw [huR, ← hue] at hk
  conv => cbv
  refine callU _ _ _ _ hΓ ?_
  conv => cbv
  exact ⟨_, loosRs_refl _, hk⟩
 have g12 := cNeq har (a := f) (b := 12) h
 rw [if_neg g12] at hk
 conv => cbv
 refine call_inN har hΓ Tryd.func64 rfl fun Γ1 hΓ1 vs1 => ?_
 have hNf := hN f
 have hnf := hnum f
 rw [hNf] at hk hnf
 conv => cbv
 refine ⟨fun h => ?_, fun h => ?_⟩
 ·have g := cEq har (a := f) (b := 2) h
  rw [if_pos g] at hk hnf
  have hn : tpr < M256 := hnf
  obtain ⟨D, hD⟩ : ∃ D, D = (numB tpr).map b8 := ⟨_, rfl⟩
  have hk : k [.ao (otx D), .s (.v (.int .i64 0))] := by rw [hD]; exact hk
  conv => cbv
  refine callN tpr _ D _ _ _ _ hΓ thWpr hn hD ?_
  conv => cbv
  exact ⟨_, loosRs_refl _, hk⟩
 have g2 := cNeq har (a := f) (b := 2) h
 rw [if_neg g2] at hk hnf
 conv => cbv
 refine ⟨fun h => ?_, fun h => ?_⟩
 ·have g := cEq har (a := f) (b := 3) h
  rw [if_pos g] at hk hnf
  have hn : tti < M256 := hnf
  obtain ⟨D, hD⟩ : ∃ D, D = (numB tti).map b8 := ⟨_, rfl⟩
  have hk : k [.ao (otx D), .s (.v (.int .i64 0))] := by rw [hD]; exact hk
  conv => cbv
  refine callN tti _ D _ _ _ _ hΓ thWti hn hD ?_
  conv => cbv
  exact ⟨_, loosRs_refl _, hk⟩
 have g3 := cNeq har (a := f) (b := 3) h
 rw [if_neg g3] at hk hnf
 conv => cbv
 refine ⟨fun h => ?_, fun h => ?_⟩
 ·have g := cEq har (a := f) (b := 4) h
  rw [if_pos g] at hk hnf
  have hn : tca < M256 := hnf
  obtain ⟨D, hD⟩ : ∃ D, D = (numB tca).map b8 := ⟨_, rfl⟩
  have hk : k [.ao (otx D), .s (.v (.int .i64 0))] := by rw [hD]; exact hk
  conv => cbv
  refine callN tca _ D _ _ _ _ hΓ thWca hn hD ?_
  conv => cbv
  exact ⟨_, loosRs_refl _, hk⟩
 have g4 := cNeq har (a := f) (b := 4) h
 rw [if_neg g4] at hk hnf
 conv => cbv
 refine ⟨fun h => ?_, fun h => ?_⟩
 ·have g := cEq har (a := f) (b := 7) h
  rw [if_pos g] at hk hnf
  have hn : tva < M256 := hnf
  obtain ⟨D, hD⟩ : ∃ D, D = (numB tva).map b8 := ⟨_, rfl⟩
  have hk : k [.ao (otx D), .s (.v (.int .i64 0))] := by rw [hD]; exact hk
  conv => cbv
  refine callN tva _ D _ _ _ _ hΓ thWva hn hD ?_
  conv => cbv
  exact ⟨_, loosRs_refl _, hk⟩
 have g7 := cNeq har (a := f) (b := 7) h
 rw [if_neg g7] at hk hnf
 conv => cbv
 refine ⟨fun h => ?_, fun h => ?_⟩
 ·have g := cEq har (a := f) (b := 10) h
  rw [if_pos g] at hk hnf
  have hn : tbc < M256 := hnf
  obtain ⟨D, hD⟩ : ∃ D, D = (numB tbc).map b8 := ⟨_, rfl⟩
  have hk : k [.ao (otx D), .s (.v (.int .i64 0))] := by rw [hD]; exact hk
  conv => cbv
  refine callN tbc _ D _ _ _ _ hΓ thWbc hn hD ?_
  conv => cbv
  exact ⟨_, loosRs_refl _, hk⟩
 have g10 := cNeq har (a := f) (b := 10) h
 rw [if_neg g10] at hk hnf
 conv => cbv
 refine ⟨fun h => ?_, fun h => ?_⟩
 ·have g := cEq har (a := f) (b := 13) h
  rw [if_pos g] at hk hnf
  have hn : tv < M256 := hnf
  obtain ⟨D, hD⟩ : ∃ D, D = (numB tv).map b8 := ⟨_, rfl⟩
  have hk : k [.ao (otx D), .s (.v (.int .i64 0))] := by rw [hD]; exact hk
  conv => cbv
  refine callN tv _ D _ _ _ _ hΓ thWv hn hD ?_
  conv => cbv
  exact ⟨_, loosRs_refl _, hk⟩
 have g13 := cNeq har (a := f) (b := 13) h
 rw [if_neg g13] at hk hnf
 conv => cbv
 refine ⟨fun h => ?_, fun h => ?_⟩
 ·have g := cEq har (a := f) (b := 14) h
  rw [if_pos g] at hk hnf
  have hn : tr < M256 := hnf
  obtain ⟨D, hD⟩ : ∃ D, D = (numB tr).map b8 := ⟨_, rfl⟩
  have hk : k [.ao (otx D), .s (.v (.int .i64 0))] := by rw [hD]; exact hk
  conv => cbv
  refine callN tr _ D _ _ _ _ hΓ thWr hn hD ?_
  conv => cbv
  exact ⟨_, loosRs_refl _, hk⟩
 have g14 := cNeq har (a := f) (b := 14) h
 rw [if_neg g14] at hk hnf
 have hn : ts < M256 := hnf
 obtain ⟨D, hD⟩ : ∃ D, D = (numB ts).map b8 := ⟨_, rfl⟩
 have hk : k [.ao (otx D), .s (.v (.int .i64 0))] := by rw [hD]; exact hk
 conv => cbv
 refine callN ts _ D _ _ _ _ hΓ thWs hn hD ?_
 conv => cbv
 exact ⟨_, loosRs_refl _, hk⟩
end Go.Eng
namespace Go.Eng
open Go Go.Proofs
set_option maxRecDepth 100000
set_option maxHeartbeats 8000000
set_option linter.unusedVariables false
theorem items_own : Sound Tryd.prog 20 fun args k => ∃ (t : Tx) (fs : List Int) (s : List (List PS)), args = [.a t.row, .s (.sl (fs.map irow) s)] ∧ t.ok ∧ t.fit ∧ fs.length ≤ 20 ∧ k [.s (oI (orowsOf (itsR t fs).1)), .s (.v (.int .i64 (itsR t fs).2))] := by
 refine Sound.of_bodyT [] 0 tt_ok ent_ok Tryd.func20 rfl ?_
 rintro ar har Γ hΓ args k ⟨⟨tty, tch, tno, tpr, tti, tca, tga, tcr, tto, tva, td, tsd, tac, tsac, tbc, tbl, tsbl, tau, tsau, tv, tr, ts⟩, fs, s, hargs, hto, hft, hfl, hk⟩
 obtain ⟨t, ht⟩ : ∃ t, t = Tx.mk tty tch tno tpr tti tca tga tcr tto tva td tsd tac tsac tbc tbl tsbl tau tsau tv tr ts := ⟨_, rfl⟩
 obtain ⟨tWpr, thWpr⟩ : ∃ x, x = w4 tpr := ⟨_, rfl⟩
 obtain ⟨tWti, thWti⟩ : ∃ x, x = w4 tti := ⟨_, rfl⟩
 obtain ⟨tWca, thWca⟩ : ∃ x, x = w4 tca := ⟨_, rfl⟩
 obtain ⟨tWva, thWva⟩ : ∃ x, x = w4 tva := ⟨_, rfl⟩
 obtain ⟨tWbc, thWbc⟩ : ∃ x, x = w4 tbc := ⟨_, rfl⟩
 obtain ⟨tWv, thWv⟩ : ∃ x, x = w4 tv := ⟨_, rfl⟩
 obtain ⟨tWr, thWr⟩ : ∃ x, x = w4 tr := ⟨_, rfl⟩
 obtain ⟨tWs, thWs⟩ : ∃ x, x = w4 ts := ⟨_, rfl⟩
 obtain ⟨tWto, thWto⟩ : ∃ x, x = u8s tto := ⟨_, rfl⟩
 obtain ⟨tD, thD⟩ : ∃ x, x = td.map b8' := ⟨_, rfl⟩
 obtain ⟨tA, thA⟩ : ∃ x, x = tac.map Ent.row := ⟨_, rfl⟩
 obtain ⟨tB, thB⟩ : ∃ x, x = tbl.map key := ⟨_, rfl⟩
 obtain ⟨tU, thU⟩ : ∃ x, x = tau.map Au.row := ⟨_, rfl⟩
 obtain ⟨tIch, thIch⟩ : ∃ x : Int, x = (tch : Int) := ⟨_, rfl⟩
 obtain ⟨tIno, thIno⟩ : ∃ x : Int, x = (tno : Int) := ⟨_, rfl⟩
 obtain ⟨tIga, thIga⟩ : ∃ x : Int, x = (tga : Int) := ⟨_, rfl⟩
 have hrow : t.row = [.c (.v (.int .i64 tty)), .c (.v (.int .u64 tIch)), .c (.v (.int .u64 tIno)), .r 4 tWpr, .r 4 tWti, .r 4 tWca, .c (.v (.int .u64 tIga)), .c (.v (.bool tcr)), .r 20 tWto, .r 4 tWva, .c (.sl tD tsd), .c (.sl tA tsac), .r 4 tWbc, .c (.sl tB tsbl), .c (.sl tU tsau), .r 4 tWv, .r 4 tWr, .r 4 tWs] := by rw [ht]; exact (by rw [thWpr, thWti, thWca, thWva, thWbc, thWv, thWr, thWs, thWto, thD, thA, thB, thU, thIch, thIno, thIga]; rfl)
 rw [← ht] at hargs hto hft hk
 obtain ⟨X, hX⟩ : ∃ X, X = fs.map irow := ⟨_, rfl⟩
 have hXl : ar.len X = (fs.length : Int) := by rw [lenIs har, hX, List.length_map]
 have callI : ∀ (f : Int) (a : Bool) (b1 c1 : List (List PS)) (e : Int) (Γ : Ctx) (d' : Nat) (k : List PR → Prop) (R : Prop), Γ = ctx Tryd.prog d' → (itemP t f).1.orow = [.c (.v (.bool a)), .c (oB b1), .c (oI c1)] → (itemP t f).2 = e → k [.ao [.c (.v (.bool a)), .c (oB b1), .c (oI c1)], .s (.v (.int .i64 e))] → Γ.g 39 [.a [.c (.v (.int .i64 tty)), .c (.v (.int .u64 tIch)), .c (.v (.int .u64 tIno)), .r 4 tWpr, .r 4 tWti, .r 4 tWca, .c (.v (.int .u64 tIga)), .c (.v (.bool tcr)), .r 20 tWto, .r 4 tWva, .c (.sl tD tsd), .c (.sl tA tsac), .r 4 tWbc, .c (.sl tB tsbl), .c (.sl tU tsau), .r 4 tWv, .r 4 tWr, .r 4 tWs], .s (.v (.int .i64 f))] k ∨ R := fun f a b1 c1 e Γ d' k R hΓ h1 h2 hk => call_by hΓ item_own ⟨t, f, by rw [hrow], hto, hft, by rw [h1, h2]; exact hk⟩
 obtain ⟨hst, hbk, hdp⟩ := itsL_facts hto hft fs
 obtain ⟨its, hits⟩ : ∃ x, x = itsL t fs := ⟨_, rfl⟩
 rw [← hits] at hst hbk hdp
 have hbk2 : bulks its ≤ 2 ^ 40 := by
  have : fs.length * 268435457 ≤ 20 * 268435457 := Nat.mul_le_mul_right _ hfl
  omega
 obtain ⟨er, her⟩ : ∃ z : Int, z = (errOf (It.lst its) : Nat) := ⟨_, rfl⟩
 have callL : ∀ (J C s : List (List PS)) (Γ : Ctx) (d' : Nat) (k : List PR → Prop) (R : Prop), Γ = ctx Tryd.prog d' → C = rowsOf its → J = orowsOf its → k [.ao (olx J)] → Γ.g 14 [.s (.sl C s)] (fun rs => shutRs rs ∧ k rs) ∨ R := fun J C s Γ d' k R hΓ hC hJ hk => call_by hΓ list_own ⟨its, s, by rw [hC], hbk2, by rw [← hJ]; exact ⟨by rw [hJ]; exact olx_shut its, hk⟩⟩
 have f0 := frz0 har
 have callS : ∀ (J : List (List PS)) (Γ : Ctx) (d' : Nat) (k : List PR → Prop) (R : Prop), Γ = ctx Tryd.prog d' → ar.frz J = rowsOf its → (∀ z, k [.s (.v (.int .i64 z)), .s (.v (.int .i64 er))]) → Γ.g 40 [.a [.c (.v (.bool true)), .c (.sl (ar.frz []) (ar.frz [])), .c (.sl (ar.frz J) (ar.frz []))]] k ∨ R := fun J Γ d' k R hΓ hJ hk => call_by hΓ rsize_sound ⟨It.lst its, by rw [hJ, f0]; rfl, by simp only [It.lst, It.bulk, List.length_nil]; have : fs.length * 268435457 ≤ 20 * 268435457 := Nat.mul_le_mul_right _ hfl; omega, by rw [← her]; exact hk _⟩
 have hbad : ∀ f, (fs.find? fun f => decide ((itemP t f).2 ≠ 0)) = some f → k [.s (oI []), .s (.v (.int .i64 (itemP t f).2))] := fun f h => by
  simp only [itsR, h] at hk; exact hk
 have hgood : (fs.find? fun f => decide ((itemP t f).2 ≠ 0)) = none → er = 0 → k [.s (oI (orowsOf its)), .s (.v (.int .i64 0))] := fun h h2 => by
  simp only [itsR, h, ← hits] at hk
  rw [if_pos (by omega)] at hk; exact hk
 have hlong : (fs.find? fun f => decide ((itemP t f).2 ≠ 0)) = none → er ≠ 0 → k [.s (oI []), .s (.v (.int .i64 er))] := fun h h2 => by
  simp only [itsR, h, ← hits] at hk
  rw [if_neg (by omega), ← her] at hk; exact hk
 rw [← hX, hrow] at hargs
 clear hk ht
 subst hargs
 conv => cbv
 refine .inr ⟨{ q : Nat × Int × List (List PS) // q.1 ≤ fs.length ∧ q.2.1 = q.1 ∧ q.2.2 = orowsOf (itsL t (fs.take q.1)) ∧ ∀ f ∈ fs.take q.1, (itemP t f).2 = 0 },
  fun q => ⟨mk 43 [(2, .s (.ptr 0 0)), (4, .s .nil), (5, .s (.lit .i64 0)), (6, .s (.own 1)), (13, .s (.p (.sl X s))), (14, pint (ar.len X)), (15, pint q.1.2.1)], [.box [.c (.p (.v (.int .i64 tty))), .c (.p (.v (.int .u64 tIch))), .c (.p (.v (.int .u64 tIno))), .r 4 tWpr, .r 4 tWti, .r 4 tWca, .c (.p (.v (.int .u64 tIga))), .c (.p (.v (.bool tcr))), .r 20 tWto, .r 4 tWva, .c (.p (.sl tD tsd)), .c (.p (.sl tA tsac)), .r 4 tWbc, .c (.p (.sl tB tsbl)), .c (.p (.sl tU tsau)), .r 4 tWv, .r 4 tWr, .r 4 tWs], .tre q.1.2.2 [] 52 3 56 none]⟩,
  fun q => fs.length - q.1.1, [.ntre 6 52], _, ⟨(0, 0, []), Nat.zero_le _, rfl, rfl, by simp⟩, rfl, ?_, ?_⟩
 ·conv => cbv
  simp
 ·rintro ⟨⟨p, pi, Z⟩, hq⟩
  have hp : p ≤ fs.length := hq.1
  have hpi : pi = (p : Int) := hq.2.1
  have hZ : Z = orowsOf (itsL t (fs.take p)) := hq.2.2.1
  have hall : ∀ f ∈ fs.take p, (itemP t f).2 = 0 := hq.2.2.2
  dsimp only
  conv => cbv
  refine ⟨fun h => ?_, fun h => ?_⟩
  ·have g := cLt har (b := ar.len X) h
   have hlt : p < fs.length := by omega
   obtain ⟨f, hf⟩ : ∃ x, fs[p]? = some x := ⟨_, List.getElem?_eq_getElem hlt⟩
   have rx : X[pi.toNat]? = some [.c (.v (.int .i64 f))] := by rw [hX, hpi]; simp [hf, irow]
   obtain ⟨a, b1, c1, hA⟩ := orow3 (itemP t f).1
   obtain ⟨e, he⟩ : ∃ e, (itemP t f).2 = e := ⟨_, rfl⟩
   have hZl : Z.length = p := by rw [hZ, orowsOf_length, itsL, List.length_map, List.length_take]; omega
   have hZ2 : ar.app Z [[.c (.v (.bool a)), .c (oB b1), .c (oI c1)]] = orowsOf (itsL t (fs.take (p + 1))) := by
    rw [appIs har, hZ, take_succ_get hf, show itsL t (fs.take p ++ [f]) = itsL t (fs.take p) ++ [(itemP t f).1] from by simp [itsL], orowsOf_append, orowsOf, orowsOf, hA]
   have s1 : 0 < 1 ∧ (Z.length + 1) * 56 ≤ 140737488355328 ∧ ∀ y ∈ [[PS.c (.v (.bool a)), .c (oB b1), .c (oI c1)]], rlen y = 3 := ⟨by omega, by omega, fun y hy => by rw [List.mem_singleton] at hy; subst hy; rfl⟩
   conv => cbv
   refine ⟨_, by omega, rx, rfl, ?_⟩
   conv => cbv
   refine callI f a b1 c1 e _ _ _ _ hΓ hA he ?_
   conv => cbv
   refine ⟨fun h => ?_, fun h => ?_⟩
   ·have g2 := cNe har (a := e) (b := 0) h
    have hk := hbad f (by
     have hsp : fs = fs.take p ++ f :: fs.drop (p + 1) := by
      obtain ⟨hlt, e⟩ := List.getElem?_eq_some_iff.1 hf
      rw [← e, List.getElem_cons_drop, List.take_append_drop]
     rw [hsp, List.find?_append, List.find?_eq_none.2 (fun y hy => by simp [hall y hy]), Option.none_or, List.find?_cons_of_pos (by simp [he, g2])])
    rw [he] at hk
    conv => cbv
    exact ⟨[.s (oI []), .s (.v (.int .i64 e))], ⟨⟨rfl, rfl, by decide⟩, rfl, trivial⟩, hk⟩
   ·have g2 := cNne har (a := e) (b := 0) h
    have hall2 : ∀ f ∈ fs.take (p + 1), (itemP t f).2 = 0 := fun y hy => by
     rw [take_succ_get hf, List.mem_append, List.mem_singleton] at hy
     rcases hy with hy | rfl
     ·exact hall y hy
     ·rw [he, g2]
    conv => cbv
    refine ⟨fun _ => s1, ?_⟩
    refine ⟨⟨(p + 1, ar.ib .add .i64 pi 1, ar.app Z [[.c (.v (.bool a)), .c (oB b1), .c (oI c1)]]), hlt, iSucc har hpi (by omega), hZ2, hall2⟩, ?_, ?_⟩
    ·dsimp only
     conv => cbv
     simp
    ·show fs.length - (p + 1) < fs.length - p
     omega
  ·have g := cNlt har (b := ar.len X) h
   have hpe : p = fs.length := by omega
   rw [hpe, List.take_length] at hall
   have hnone : (fs.find? fun f => decide ((itemP t f).2 ≠ 0)) = none := List.find?_eq_none.2 fun y hy => by simp [hall y hy]
   have hZe : Z = orowsOf its := by rw [hZ, hpe, List.take_length, hits]
   have fZ : ar.frz Z = rowsOf its := by rw [hZe, frzO har, hst]
   conv => cbv
   refine callL Z _ _ _ _ _ _ hΓ fZ hZe ?_
   conv => cbv
   refine callS Z _ _ _ _ hΓ fZ fun z => ?_
   conv => cbv
   refine ⟨fun h => ?_, fun h => ?_⟩
   ·have g2 := cNe har (a := er) (b := 0) h
    have hk := hlong hnone g2
    conv => cbv
    exact ⟨[.s (oI []), .s (.v (.int .i64 er))], ⟨⟨rfl, rfl, by decide⟩, rfl, trivial⟩, hk⟩
   ·have g2 := cNne har (a := er) (b := 0) h
    have hk := hgood hnone g2
    rw [← hZe] at hk
    conv => cbv
    exact ⟨_, loosRs_refl _, hk⟩
end Go.Eng
namespace Go.Eng
open Go Go.Proofs
set_option maxRecDepth 100000
set_option maxHeartbeats 16000000
set_option linter.unusedVariables false
theorem encodeT_own : Sound Tryd.prog 13 fun args k => ∃ (it : It), args = [.a it.row] ∧ it.bulk ≤ 2 ^ 34 ∧ dep it ≤ 4 ∧ k [.s (oB (if errOf it = 0 then (enc it).map b8 else [])), .s (.v (.int .i64 (errOf it)))] := by
 refine Sound.of_bodyT [] 6 tt_ok ent_ok Tryd.func13 rfl ?_
 rintro ar har Γ hΓ args k ⟨⟨l1, d1, sd1, its1, ss1⟩, hargs, hb, hdp, hk⟩
 obtain ⟨D1, hD1'⟩ : ∃ D, D = d1.map b8 := ⟨_, rfl⟩
 obtain ⟨I1, hI1⟩ : ∃ I, I = rowsOf its1 := ⟨_, rfl⟩
 have hD1v := hD1'
 have hrow : (It.mk l1 d1 sd1 its1 ss1).row = [.c (.v (.bool l1)), .c (.sl D1 sd1), .c (.sl I1 ss1)] := by rw [hD1', hI1]; rfl
 obtain ⟨e, he⟩ : ∃ e, e = errOf (It.mk l1 d1 sd1 its1 ss1) := ⟨_, rfl⟩
 have callC : ∀ (Γ : Ctx) (d' : Nat) (k : List PR → Prop) (R : Prop), Γ = ctx Tryd.prog d' → k [.s (.v (.int .i64 (e : Int)))] → Γ.g 30 [.a [.c (.v (.bool l1)), .c (.sl D1 sd1), .c (.sl I1 ss1)]] k ∨ R := fun Γ d' k R hΓ hk => call_by hΓ check_sound ⟨_, by rw [hrow], by omega, by rw [← he]; exact hk⟩
 rw [← he] at hk
 obtain ⟨z, hz⟩ : ∃ z : Int, z = (e : Int) := ⟨_, rfl⟩
 rw [← hz] at callC hk
 simp only [It.bulk] at hb
 have n1 : ar.nb true = false := by rw [har]; rfl
 have n2 : ar.nb false = true := by rw [har]; rfl
 rw [hrow] at hargs
 subst hargs
 conv => cbv
 refine callC _ _ _ _ hΓ ?_
 conv => cbv
 refine ⟨fun h => ?_, fun h => ?_⟩
 ·have g := cNe har (a := z) (b := 0) h
  rw [if_neg (by omega)] at hk
  conv => cbv
  exact ⟨[.s (oB []), .s (.v (.int .i64 z))], ⟨⟨rfl, rfl, by decide⟩, rfl, trivial⟩, hk⟩
 have g := cNne har (a := z) (b := 0) h
 rw [if_pos (by omega), g] at hk
 cases l1 with
 | false =>
  conv => cbv
  refine call_in har hΓ Tryd.func31 rfl fun Γ1 hΓ1 vs1 => ?_
  conv => cbv
  refine onT n2 ?_
  have hD1 := hD1v
  have hDl1 : ar.len D1 = (d1.length : Int) := by rw [lenIs har, hD1, List.length_map]
  have hDn1 : D1.length = d1.length := by rw [hD1, List.length_map]
  obtain ⟨H, hH⟩ : ∃ H, H = (hd 128 d1.length).map b8 := ⟨_, rfl⟩
  have hhl := hd_len (f := 128) (n := d1.length) (by omega)
  have hHn : H.length = (hd 128 d1.length).length := by rw [hH, List.length_map]
  have hDy : ∀ y ∈ D1, rlen y = 1 := by rw [hD1]; exact b8_all _
  have hHy : ∀ y ∈ H, rlen y = 1 := by rw [hH]; exact b8_all _
  have s1 : (0 + H.length) * 1 ≤ 140737488355328 ∧ ∀ y ∈ H, rlen y = 1 := ⟨by omega, hHy⟩
  have s2 : ((ar.app [] H).length + D1.length) * 1 ≤ 140737488355328 ∧ ∀ y ∈ D1, rlen y = 1 := ⟨by rw [appIs har, List.length_append]; (try simp only [List.length_nil]); omega, hDy⟩
  have s3 : (0 + D1.length) * 1 ≤ 140737488355328 ∧ ∀ y ∈ D1, rlen y = 1 := ⟨by omega, hDy⟩
  have hEq1 : (d1.length ≠ 1 ∨ 128 ≤ d1.getD 0 0) → ar.app (ar.app [] H) D1 = (enc (It.mk false d1 sd1 its1 ss1)).map b8 := fun hc => by
   rw [appIs har, appIs har, enc, hH, hD1, encT, if_pos hc]; simp only [List.map_append, List.nil_append, List.append_assoc]
  have hEq2 : ¬ (d1.length ≠ 1 ∨ 128 ≤ d1.getD 0 0) → ar.app [] D1 = (enc (It.mk false d1 sd1 its1 ss1)).map b8 := fun hc => by
   rw [appIs har, enc, hD1, encT, if_neg hc]; simp only [List.map_append, List.nil_append]
  have callH : ∀ (Γ : Ctx) (d' : Nat) (k : List PR → Prop) (R : Prop), Γ = ctx Tryd.prog d' → k [.s (.sl H [])] → Γ.g 51 [.s (.v (.int .u8 128)), .s (.v (.int .i64 (ar.len D1)))] k ∨ R := fun Γ d' k R hΓ hk => call_by hΓ head_sound ⟨128, d1.length, by rw [hDl1], by omega, by omega, by omega, by rw [← hH]; exact hk⟩
  conv => cbv
  refine ⟨fun h => ?_, fun h => ?_⟩
  ·have g := cNne har (a := ar.len D1) (b := 1) h
   obtain ⟨b, hdb⟩ : ∃ b, d1 = [b] := by
    match d1, (show d1.length = 1 by omega) with
    | [b], _ => exact ⟨b, rfl⟩
   have hDb : D1 = [[.c (.v (.int .u8 b))]] := by rw [hD1, hdb]; rfl
   have hD0 : D1[(0 : Int).toNat]? = some [.c (.v (.int .u8 b))] := by rw [hDb]; rfl
   conv => cbv
   refine ⟨_, by omega, hD0, rfl, ?_⟩
   conv => cbv
   refine ⟨fun h => ?_, fun h => ?_⟩
   ·have g2 := cGe har (a := b) (b := 128) h
    conv => cbv
    refine callH _ _ _ _ hΓ1 ?_
    conv => cbv
    refine ⟨fun _ => s1, ?_⟩
    conv => cbv
    refine ⟨fun _ => s2, ?_⟩
    have hk : k [.s (oB (ar.app (ar.app [] H) D1)), .s (.v (.int .i64 0))] := by rw [hEq1 (by right; rw [hdb]; exact g2)]; exact hk
    conv => cbv
    exact ⟨[.s (oB _), .s (.v (.int .i64 0))], ⟨⟨rfl, rfl, rfl, rfl, rfl⟩, rfl, trivial⟩, hk⟩
   ·have g2 := cNge har (a := b) (b := 128) h
    conv => cbv
    refine ⟨fun _ => s3, ?_⟩
    have hk : k [.s (oB (ar.app [] D1)), .s (.v (.int .i64 0))] := by rw [hEq2 (by rw [hdb]; simp; omega)]; exact hk
    conv => cbv
    exact ⟨[.s (oB _), .s (.v (.int .i64 0))], ⟨⟨rfl, rfl, rfl, rfl, rfl⟩, rfl, trivial⟩, hk⟩
  ·have g := cNe har (a := ar.len D1) (b := 1) h
   conv => cbv
   refine callH _ _ _ _ hΓ1 ?_
   conv => cbv
   refine ⟨fun _ => s1, ?_⟩
   conv => cbv
   refine ⟨fun _ => s2, ?_⟩
   have hk : k [.s (oB (ar.app (ar.app [] H) D1)), .s (.v (.int .i64 0))] := by rw [hEq1 (by left; omega)]; exact hk
   conv => cbv
   exact ⟨[.s (oB _), .s (.v (.int .i64 0))], ⟨⟨rfl, rfl, rfl, rfl, rfl⟩, rfl, trivial⟩, hk⟩
 | true =>
  have hdp : depths its1 + 1 ≤ 4 := hdp
  conv => cbv
  refine call_in har hΓ Tryd.func31 rfl fun Γ1 hΓ1 vs1 => ?_
  conv => cbv
  refine onF n1 ?_
  have hIl1 : ar.len I1 = (its1.length : Int) := by rw [lenIs har, hI1, rowsOf_length]
  have hil1 := bulks_len its1
  have hel1 := encs_len its1
  conv => cbv
  refine .inr ⟨{ q : Nat × Int × List (List PS) // q.1 ≤ its1.length ∧ q.2.1 = q.1 ∧ q.2.2 = (encs (its1.take q.1)).map b8 },
   fun q => ⟨mk 50 [(0, .s .nil), (4, .s .nil), (5, .s (.own 3)), (33, .s (.p (.sl I1 ss1))), (34, pint (ar.len I1)), (35, pint q.1.2.1)], [.gone, .hid (mk 12 [(2, .s .nil), (3, .s (.lit .i64 0))]) vs1, .gone, .arr q.1.2.2 5 1 1 true]⟩,
   fun q => its1.length - q.1.1, [.slot 5 5], _, ⟨(0, 0, []), Nat.zero_le _, rfl, rfl⟩, rfl, ?_, ?_⟩
  ·conv => cbv
   simp
  rintro ⟨⟨p1, pi1, Z1⟩, hq⟩
  have hp1 : p1 ≤ its1.length := hq.1
  have hpi1 : pi1 = (p1 : Int) := hq.2.1
  have hZ1 : Z1 = (encs (its1.take p1)).map b8 := hq.2.2
  have hZn1 : Z1.length = (encs (its1.take p1)).length := by rw [hZ1, List.length_map]
  have hZle1 := encs_le its1 p1
  dsimp only
  conv => cbv
  refine ⟨fun h => ?_, fun h => ?_⟩
  ·have g' := cLt har (b := ar.len I1) h
   have hlt1 : p1 < its1.length := by omega
   obtain ⟨x, hx1⟩ : ∃ t, its1[p1]? = some t := ⟨_, List.getElem?_eq_getElem hlt1⟩
   have hxb2 := bulk_get hx1
   have hxd2 := dep_get hx1
   have hdt1 := encs_take hx1
   have hdle1 := encs_le its1 (p1 + 1)
   rw [hdt1, List.length_append] at hdle1
   obtain ⟨l2, d2, sd2, its2, ss2⟩ := x
   have hxb2 : 1 + d2.length + bulks its2 ≤ bulks its1 := hxb2
   obtain ⟨D2, hD2⟩ : ∃ D, D = d2.map b8 := ⟨_, rfl⟩
   obtain ⟨I2, hI2⟩ : ∃ I, I = rowsOf its2 := ⟨_, rfl⟩
   have rx1 : I1[pi1.toNat]? = some [.c (.v (.bool l2)), .c (.sl D2 sd2), .c (.sl I2 ss2)] := by
    rw [hI1, hpi1, Int.toNat_natCast, rowsOf_get hx1, hD2, hI2]; rfl
   cases l2 with
   | false =>
    conv => cbv
    refine ⟨_, by omega, rx1, rfl, ?_⟩
    conv => cbv
    refine call_in har hΓ1 Tryd.func31 rfl fun Γ2 hΓ2 vs2 => ?_
    conv => cbv
    refine onT n2 ?_
    have hDl2 : ar.len D2 = (d2.length : Int) := by rw [lenIs har, hD2, List.length_map]
    have hDn2 : D2.length = d2.length := by rw [hD2, List.length_map]
    obtain ⟨H, hH⟩ : ∃ H, H = (hd 128 d2.length).map b8 := ⟨_, rfl⟩
    have hhl := hd_len (f := 128) (n := d2.length) (by omega)
    have hHn : H.length = (hd 128 d2.length).length := by rw [hH, List.length_map]
    have hDy : ∀ y ∈ D2, rlen y = 1 := by rw [hD2]; exact b8_all _
    have hHy : ∀ y ∈ H, rlen y = 1 := by rw [hH]; exact b8_all _
    have s1 : (Z1.length + H.length) * 1 ≤ 140737488355328 ∧ ∀ y ∈ H, rlen y = 1 := ⟨by omega, hHy⟩
    have s2 : ((ar.app Z1 H).length + D2.length) * 1 ≤ 140737488355328 ∧ ∀ y ∈ D2, rlen y = 1 := ⟨by rw [appIs har, List.length_append]; (try simp only [List.length_nil]); omega, hDy⟩
    have s3 : (Z1.length + D2.length) * 1 ≤ 140737488355328 ∧ ∀ y ∈ D2, rlen y = 1 := ⟨by omega, hDy⟩
    have hEq1 : (d2.length ≠ 1 ∨ 128 ≤ d2.getD 0 0) → ar.app (ar.app Z1 H) D2 = (encs (its1.take (p1 + 1))).map b8 := fun hc => by
     rw [appIs har, appIs har, hZ1, hdt1, enc, hH, hD2, encT, if_pos hc]; simp only [List.map_append, List.nil_append, List.append_assoc]
    have hEq2 : ¬ (d2.length ≠ 1 ∨ 128 ≤ d2.getD 0 0) → ar.app Z1 D2 = (encs (its1.take (p1 + 1))).map b8 := fun hc => by
     rw [appIs har, hZ1, hdt1, enc, hD2, encT, if_neg hc]; simp only [List.map_append, List.nil_append]
    have callH : ∀ (Γ : Ctx) (d' : Nat) (k : List PR → Prop) (R : Prop), Γ = ctx Tryd.prog d' → k [.s (.sl H [])] → Γ.g 51 [.s (.v (.int .u8 128)), .s (.v (.int .i64 (ar.len D2)))] k ∨ R := fun Γ d' k R hΓ hk => call_by hΓ head_sound ⟨128, d2.length, by rw [hDl2], by omega, by omega, by omega, by rw [← hH]; exact hk⟩
    conv => cbv
    refine ⟨fun h => ?_, fun h => ?_⟩
    ·have g := cNne har (a := ar.len D2) (b := 1) h
     obtain ⟨b, hdb⟩ : ∃ b, d2 = [b] := by
      match d2, (show d2.length = 1 by omega) with
      | [b], _ => exact ⟨b, rfl⟩
     have hDb : D2 = [[.c (.v (.int .u8 b))]] := by rw [hD2, hdb]; rfl
     have hD0 : D2[(0 : Int).toNat]? = some [.c (.v (.int .u8 b))] := by rw [hDb]; rfl
     conv => cbv
     refine ⟨_, by omega, hD0, rfl, ?_⟩
     conv => cbv
     refine ⟨fun h => ?_, fun h => ?_⟩
     ·have g2 := cGe har (a := b) (b := 128) h
      conv => cbv
      refine callH _ _ _ _ hΓ2 ?_
      conv => cbv
      refine ⟨fun _ => s1, ?_⟩
      conv => cbv
      refine ⟨fun _ => s2, ?_⟩
      refine ⟨⟨(p1 + 1, ar.ib .add .i64 pi1 1, ar.app (ar.app Z1 H) D2), hlt1, iSucc har hpi1 (by omega), hEq1 (by right; rw [hdb]; exact g2)⟩, ?_, ?_⟩
      ·dsimp only
       conv => cbv
       simp
      ·show its1.length - (p1 + 1) < its1.length - p1
       omega
     ·have g2 := cNge har (a := b) (b := 128) h
      conv => cbv
      refine ⟨fun _ => s3, ?_⟩
      refine ⟨⟨(p1 + 1, ar.ib .add .i64 pi1 1, ar.app Z1 D2), hlt1, iSucc har hpi1 (by omega), hEq2 (by rw [hdb]; simp; omega)⟩, ?_, ?_⟩
      ·dsimp only
       conv => cbv
       simp
      ·show its1.length - (p1 + 1) < its1.length - p1
       omega
    ·have g := cNe har (a := ar.len D2) (b := 1) h
     conv => cbv
     refine callH _ _ _ _ hΓ2 ?_
     conv => cbv
     refine ⟨fun _ => s1, ?_⟩
     conv => cbv
     refine ⟨fun _ => s2, ?_⟩
     refine ⟨⟨(p1 + 1, ar.ib .add .i64 pi1 1, ar.app (ar.app Z1 H) D2), hlt1, iSucc har hpi1 (by omega), hEq1 (by left; omega)⟩, ?_, ?_⟩
     ·dsimp only
      conv => cbv
      simp
     ·show its1.length - (p1 + 1) < its1.length - p1
      omega
   | true =>
    have hxd2 : depths its2 + 1 ≤ depths its1 := hxd2
    conv => cbv
    refine ⟨_, by omega, rx1, rfl, ?_⟩
    conv => cbv
    refine call_in har hΓ1 Tryd.func31 rfl fun Γ2 hΓ2 vs2 => ?_
    conv => cbv
    refine onF n1 ?_
    have hIl2 : ar.len I2 = (its2.length : Int) := by rw [lenIs har, hI2, rowsOf_length]
    have hil2 := bulks_len its2
    have hel2 := encs_len its2
    conv => cbv
    refine .inr ⟨{ q : Nat × Int × List (List PS) // q.1 ≤ its2.length ∧ q.2.1 = q.1 ∧ q.2.2 = (encs (its2.take q.1)).map b8 },
     fun q => ⟨mk 50 [(0, .s (.own 3)), (4, .s .nil), (5, .s (.own 7)), (33, .s (.p (.sl I2 ss2))), (34, pint (ar.len I2)), (35, pint q.1.2.1)], [.gone, .hid (mk 12 [(2, .s .nil), (3, .s (.lit .i64 0))]) vs1, .gone, .arr Z1 5 1 1 true, .gone, .hid (mk 50 [(0, .s .nil), (4, .s .nil), (33, .s (.p (.sl I1 ss1))), (34, pint (ar.len I1)), (35, pint pi1)]) vs2, .gone, .arr q.1.2.2 5 1 1 true]⟩,
     fun q => its2.length - q.1.1, [.slot 5 5], _, ⟨(0, 0, []), Nat.zero_le _, rfl, rfl⟩, rfl, ?_, ?_⟩
    ·conv => cbv
     simp
    rintro ⟨⟨p2, pi2, Z2⟩, hq⟩
    have hp2 : p2 ≤ its2.length := hq.1
    have hpi2 : pi2 = (p2 : Int) := hq.2.1
    have hZ2 : Z2 = (encs (its2.take p2)).map b8 := hq.2.2
    have hZn2 : Z2.length = (encs (its2.take p2)).length := by rw [hZ2, List.length_map]
    have hZle2 := encs_le its2 p2
    dsimp only
    conv => cbv
    refine ⟨fun h => ?_, fun h => ?_⟩
    ·have g' := cLt har (b := ar.len I2) h
     have hlt2 : p2 < its2.length := by omega
     obtain ⟨x, hx2⟩ : ∃ t, its2[p2]? = some t := ⟨_, List.getElem?_eq_getElem hlt2⟩
     have hxb3 := bulk_get hx2
     have hxd3 := dep_get hx2
     have hdt2 := encs_take hx2
     have hdle2 := encs_le its2 (p2 + 1)
     rw [hdt2, List.length_append] at hdle2
     obtain ⟨l3, d3, sd3, its3, ss3⟩ := x
     have hxb3 : 1 + d3.length + bulks its3 ≤ bulks its2 := hxb3
     obtain ⟨D3, hD3⟩ : ∃ D, D = d3.map b8 := ⟨_, rfl⟩
     obtain ⟨I3, hI3⟩ : ∃ I, I = rowsOf its3 := ⟨_, rfl⟩
     have rx2 : I2[pi2.toNat]? = some [.c (.v (.bool l3)), .c (.sl D3 sd3), .c (.sl I3 ss3)] := by
      rw [hI2, hpi2, Int.toNat_natCast, rowsOf_get hx2, hD3, hI3]; rfl
     cases l3 with
     | false =>
      conv => cbv
      refine ⟨_, by omega, rx2, rfl, ?_⟩
      conv => cbv
      refine call_in har hΓ2 Tryd.func31 rfl fun Γ3 hΓ3 vs3 => ?_
      conv => cbv
      refine onT n2 ?_
      have hDl3 : ar.len D3 = (d3.length : Int) := by rw [lenIs har, hD3, List.length_map]
      have hDn3 : D3.length = d3.length := by rw [hD3, List.length_map]
      obtain ⟨H, hH⟩ : ∃ H, H = (hd 128 d3.length).map b8 := ⟨_, rfl⟩
      have hhl := hd_len (f := 128) (n := d3.length) (by omega)
      have hHn : H.length = (hd 128 d3.length).length := by rw [hH, List.length_map]
      have hDy : ∀ y ∈ D3, rlen y = 1 := by rw [hD3]; exact b8_all _
      have hHy : ∀ y ∈ H, rlen y = 1 := by rw [hH]; exact b8_all _
      have s1 : (Z2.length + H.length) * 1 ≤ 140737488355328 ∧ ∀ y ∈ H, rlen y = 1 := ⟨by omega, hHy⟩
      have s2 : ((ar.app Z2 H).length + D3.length) * 1 ≤ 140737488355328 ∧ ∀ y ∈ D3, rlen y = 1 := ⟨by rw [appIs har, List.length_append]; (try simp only [List.length_nil]); omega, hDy⟩
      have s3 : (Z2.length + D3.length) * 1 ≤ 140737488355328 ∧ ∀ y ∈ D3, rlen y = 1 := ⟨by omega, hDy⟩
      have hEq1 : (d3.length ≠ 1 ∨ 128 ≤ d3.getD 0 0) → ar.app (ar.app Z2 H) D3 = (encs (its2.take (p2 + 1))).map b8 := fun hc => by
       rw [appIs har, appIs har, hZ2, hdt2, enc, hH, hD3, encT, if_pos hc]; simp only [List.map_append, List.nil_append, List.append_assoc]
      have hEq2 : ¬ (d3.length ≠ 1 ∨ 128 ≤ d3.getD 0 0) → ar.app Z2 D3 = (encs (its2.take (p2 + 1))).map b8 := fun hc => by
       rw [appIs har, hZ2, hdt2, enc, hD3, encT, if_neg hc]; simp only [List.map_append, List.nil_append]
      have callH : ∀ (Γ : Ctx) (d' : Nat) (k : List PR → Prop) (R : Prop), Γ = ctx Tryd.prog d' → k [.s (.sl H [])] → Γ.g 51 [.s (.v (.int .u8 128)), .s (.v (.int .i64 (ar.len D3)))] k ∨ R := fun Γ d' k R hΓ hk => call_by hΓ head_sound ⟨128, d3.length, by rw [hDl3], by omega, by omega, by omega, by rw [← hH]; exact hk⟩
      conv => cbv
      refine ⟨fun h => ?_, fun h => ?_⟩
      ·have g := cNne har (a := ar.len D3) (b := 1) h
       obtain ⟨b, hdb⟩ : ∃ b, d3 = [b] := by
        match d3, (show d3.length = 1 by omega) with
        | [b], _ => exact ⟨b, rfl⟩
       have hDb : D3 = [[.c (.v (.int .u8 b))]] := by rw [hD3, hdb]; rfl
       have hD0 : D3[(0 : Int).toNat]? = some [.c (.v (.int .u8 b))] := by rw [hDb]; rfl
       conv => cbv
       refine ⟨_, by omega, hD0, rfl, ?_⟩
       conv => cbv
       refine ⟨fun h => ?_, fun h => ?_⟩
       ·have g2 := cGe har (a := b) (b := 128) h
        conv => cbv
        refine callH _ _ _ _ hΓ3 ?_
        conv => cbv
        refine ⟨fun _ => s1, ?_⟩
        conv => cbv
        refine ⟨fun _ => s2, ?_⟩
        refine ⟨⟨(p2 + 1, ar.ib .add .i64 pi2 1, ar.app (ar.app Z2 H) D3), hlt2, iSucc har hpi2 (by omega), hEq1 (by right; rw [hdb]; exact g2)⟩, ?_, ?_⟩
        ·dsimp only
         conv => cbv
         simp
        ·show its2.length - (p2 + 1) < its2.length - p2
         omega
       ·have g2 := cNge har (a := b) (b := 128) h
        conv => cbv
        refine ⟨fun _ => s3, ?_⟩
        refine ⟨⟨(p2 + 1, ar.ib .add .i64 pi2 1, ar.app Z2 D3), hlt2, iSucc har hpi2 (by omega), hEq2 (by rw [hdb]; simp; omega)⟩, ?_, ?_⟩
        ·dsimp only
         conv => cbv
         simp
        ·show its2.length - (p2 + 1) < its2.length - p2
         omega
      ·have g := cNe har (a := ar.len D3) (b := 1) h
       conv => cbv
       refine callH _ _ _ _ hΓ3 ?_
       conv => cbv
       refine ⟨fun _ => s1, ?_⟩
       conv => cbv
       refine ⟨fun _ => s2, ?_⟩
       refine ⟨⟨(p2 + 1, ar.ib .add .i64 pi2 1, ar.app (ar.app Z2 H) D3), hlt2, iSucc har hpi2 (by omega), hEq1 (by left; omega)⟩, ?_, ?_⟩
       ·dsimp only
        conv => cbv
        simp
       ·show its2.length - (p2 + 1) < its2.length - p2
        omega
     | true =>
      have hxd3 : depths its3 + 1 ≤ depths its2 := hxd3
      conv => cbv
      refine ⟨_, by omega, rx2, rfl, ?_⟩
      conv => cbv
      refine call_in har hΓ2 Tryd.func31 rfl fun Γ3 hΓ3 vs3 => ?_
      conv => cbv
      refine onF n1 ?_
      have hIl3 : ar.len I3 = (its3.length : Int) := by rw [lenIs har, hI3, rowsOf_length]
      have hil3 := bulks_len its3
      have hel3 := encs_len its3
      conv => cbv
      refine .inr ⟨{ q : Nat × Int × List (List PS) // q.1 ≤ its3.length ∧ q.2.1 = q.1 ∧ q.2.2 = (encs (its3.take q.1)).map b8 },
       fun q => ⟨mk 50 [(0, .s (.own 7)), (4, .s .nil), (5, .s (.own 11)), (33, .s (.p (.sl I3 ss3))), (34, pint (ar.len I3)), (35, pint q.1.2.1)], [.gone, .hid (mk 12 [(2, .s .nil), (3, .s (.lit .i64 0))]) vs1, .gone, .arr Z1 5 1 1 true, .gone, .hid (mk 50 [(0, .s .nil), (4, .s .nil), (33, .s (.p (.sl I1 ss1))), (34, pint (ar.len I1)), (35, pint pi1)]) vs2, .gone, .arr Z2 5 1 1 true, .gone, .hid (mk 50 [(0, .s (.own 3)), (4, .s .nil), (33, .s (.p (.sl I2 ss2))), (34, pint (ar.len I2)), (35, pint pi2)]) vs3, .gone, .arr q.1.2.2 5 1 1 true]⟩,
       fun q => its3.length - q.1.1, [.slot 5 5], _, ⟨(0, 0, []), Nat.zero_le _, rfl, rfl⟩, rfl, ?_, ?_⟩
      ·conv => cbv
       simp
      rintro ⟨⟨p3, pi3, Z3⟩, hq⟩
      have hp3 : p3 ≤ its3.length := hq.1
      have hpi3 : pi3 = (p3 : Int) := hq.2.1
      have hZ3 : Z3 = (encs (its3.take p3)).map b8 := hq.2.2
      have hZn3 : Z3.length = (encs (its3.take p3)).length := by rw [hZ3, List.length_map]
      have hZle3 := encs_le its3 p3
      dsimp only
      conv => cbv
      refine ⟨fun h => ?_, fun h => ?_⟩
      ·have g' := cLt har (b := ar.len I3) h
       have hlt3 : p3 < its3.length := by omega
       obtain ⟨x, hx3⟩ : ∃ t, its3[p3]? = some t := ⟨_, List.getElem?_eq_getElem hlt3⟩
       have hxb4 := bulk_get hx3
       have hxd4 := dep_get hx3
       have hdt3 := encs_take hx3
       have hdle3 := encs_le its3 (p3 + 1)
       rw [hdt3, List.length_append] at hdle3
       obtain ⟨l4, d4, sd4, its4, ss4⟩ := x
       have hxb4 : 1 + d4.length + bulks its4 ≤ bulks its3 := hxb4
       obtain ⟨D4, hD4⟩ : ∃ D, D = d4.map b8 := ⟨_, rfl⟩
       obtain ⟨I4, hI4⟩ : ∃ I, I = rowsOf its4 := ⟨_, rfl⟩
       have rx3 : I3[pi3.toNat]? = some [.c (.v (.bool l4)), .c (.sl D4 sd4), .c (.sl I4 ss4)] := by
        rw [hI3, hpi3, Int.toNat_natCast, rowsOf_get hx3, hD4, hI4]; rfl
       cases l4 with
       | false =>
        conv => cbv
        refine ⟨_, by omega, rx3, rfl, ?_⟩
        conv => cbv
        refine call_in har hΓ3 Tryd.func31 rfl fun Γ4 hΓ4 vs4 => ?_
        conv => cbv
        refine onT n2 ?_
        have hDl4 : ar.len D4 = (d4.length : Int) := by rw [lenIs har, hD4, List.length_map]
        have hDn4 : D4.length = d4.length := by rw [hD4, List.length_map]
        obtain ⟨H, hH⟩ : ∃ H, H = (hd 128 d4.length).map b8 := ⟨_, rfl⟩
        have hhl := hd_len (f := 128) (n := d4.length) (by omega)
        have hHn : H.length = (hd 128 d4.length).length := by rw [hH, List.length_map]
        have hDy : ∀ y ∈ D4, rlen y = 1 := by rw [hD4]; exact b8_all _
        have hHy : ∀ y ∈ H, rlen y = 1 := by rw [hH]; exact b8_all _
        have s1 : (Z3.length + H.length) * 1 ≤ 140737488355328 ∧ ∀ y ∈ H, rlen y = 1 := ⟨by omega, hHy⟩
        have s2 : ((ar.app Z3 H).length + D4.length) * 1 ≤ 140737488355328 ∧ ∀ y ∈ D4, rlen y = 1 := ⟨by rw [appIs har, List.length_append]; (try simp only [List.length_nil]); omega, hDy⟩
        have s3 : (Z3.length + D4.length) * 1 ≤ 140737488355328 ∧ ∀ y ∈ D4, rlen y = 1 := ⟨by omega, hDy⟩
        have hEq1 : (d4.length ≠ 1 ∨ 128 ≤ d4.getD 0 0) → ar.app (ar.app Z3 H) D4 = (encs (its3.take (p3 + 1))).map b8 := fun hc => by
         rw [appIs har, appIs har, hZ3, hdt3, enc, hH, hD4, encT, if_pos hc]; simp only [List.map_append, List.nil_append, List.append_assoc]
        have hEq2 : ¬ (d4.length ≠ 1 ∨ 128 ≤ d4.getD 0 0) → ar.app Z3 D4 = (encs (its3.take (p3 + 1))).map b8 := fun hc => by
         rw [appIs har, hZ3, hdt3, enc, hD4, encT, if_neg hc]; simp only [List.map_append, List.nil_append]
        have callH : ∀ (Γ : Ctx) (d' : Nat) (k : List PR → Prop) (R : Prop), Γ = ctx Tryd.prog d' → k [.s (.sl H [])] → Γ.g 51 [.s (.v (.int .u8 128)), .s (.v (.int .i64 (ar.len D4)))] k ∨ R := fun Γ d' k R hΓ hk => call_by hΓ head_sound ⟨128, d4.length, by rw [hDl4], by omega, by omega, by omega, by rw [← hH]; exact hk⟩
        conv => cbv
        refine ⟨fun h => ?_, fun h => ?_⟩
        ·have g := cNne har (a := ar.len D4) (b := 1) h
         obtain ⟨b, hdb⟩ : ∃ b, d4 = [b] := by
          match d4, (show d4.length = 1 by omega) with
          | [b], _ => exact ⟨b, rfl⟩
         have hDb : D4 = [[.c (.v (.int .u8 b))]] := by rw [hD4, hdb]; rfl
         have hD0 : D4[(0 : Int).toNat]? = some [.c (.v (.int .u8 b))] := by rw [hDb]; rfl
         conv => cbv
         refine ⟨_, by omega, hD0, rfl, ?_⟩
         conv => cbv
         refine ⟨fun h => ?_, fun h => ?_⟩
         ·have g2 := cGe har (a := b) (b := 128) h
          conv => cbv
          refine callH _ _ _ _ hΓ4 ?_
          conv => cbv
          refine ⟨fun _ => s1, ?_⟩
          conv => cbv
          refine ⟨fun _ => s2, ?_⟩
          refine ⟨⟨(p3 + 1, ar.ib .add .i64 pi3 1, ar.app (ar.app Z3 H) D4), hlt3, iSucc har hpi3 (by omega), hEq1 (by right; rw [hdb]; exact g2)⟩, ?_, ?_⟩
          ·dsimp only
           conv => cbv
           simp
          ·show its3.length - (p3 + 1) < its3.length - p3
           omega
         ·have g2 := cNge har (a := b) (b := 128) h
          conv => cbv
          refine ⟨fun _ => s3, ?_⟩
          refine ⟨⟨(p3 + 1, ar.ib .add .i64 pi3 1, ar.app Z3 D4), hlt3, iSucc har hpi3 (by omega), hEq2 (by rw [hdb]; simp; omega)⟩, ?_, ?_⟩
          ·dsimp only
           conv => cbv
           simp
          ·show its3.length - (p3 + 1) < its3.length - p3
           omega
        ·have g := cNe har (a := ar.len D4) (b := 1) h
         conv => cbv
         refine callH _ _ _ _ hΓ4 ?_
         conv => cbv
         refine ⟨fun _ => s1, ?_⟩
         conv => cbv
         refine ⟨fun _ => s2, ?_⟩
         refine ⟨⟨(p3 + 1, ar.ib .add .i64 pi3 1, ar.app (ar.app Z3 H) D4), hlt3, iSucc har hpi3 (by omega), hEq1 (by left; omega)⟩, ?_, ?_⟩
         ·dsimp only
          conv => cbv
          simp
         ·show its3.length - (p3 + 1) < its3.length - p3
          omega
       | true =>
        have hxd4 : depths its4 + 1 ≤ depths its3 := hxd4
        conv => cbv
        refine ⟨_, by omega, rx3, rfl, ?_⟩
        conv => cbv
        refine call_in har hΓ3 Tryd.func31 rfl fun Γ4 hΓ4 vs4 => ?_
        conv => cbv
        refine onF n1 ?_
        have hIl4 : ar.len I4 = (its4.length : Int) := by rw [lenIs har, hI4, rowsOf_length]
        have hil4 := bulks_len its4
        have hel4 := encs_len its4
        conv => cbv
        refine .inr ⟨{ q : Nat × Int × List (List PS) // q.1 ≤ its4.length ∧ q.2.1 = q.1 ∧ q.2.2 = (encs (its4.take q.1)).map b8 },
         fun q => ⟨mk 50 [(0, .s (.own 11)), (4, .s .nil), (5, .s (.own 15)), (33, .s (.p (.sl I4 ss4))), (34, pint (ar.len I4)), (35, pint q.1.2.1)], [.gone, .hid (mk 12 [(2, .s .nil), (3, .s (.lit .i64 0))]) vs1, .gone, .arr Z1 5 1 1 true, .gone, .hid (mk 50 [(0, .s .nil), (4, .s .nil), (33, .s (.p (.sl I1 ss1))), (34, pint (ar.len I1)), (35, pint pi1)]) vs2, .gone, .arr Z2 5 1 1 true, .gone, .hid (mk 50 [(0, .s (.own 3)), (4, .s .nil), (33, .s (.p (.sl I2 ss2))), (34, pint (ar.len I2)), (35, pint pi2)]) vs3, .gone, .arr Z3 5 1 1 true, .gone, .hid (mk 50 [(0, .s (.own 7)), (4, .s .nil), (33, .s (.p (.sl I3 ss3))), (34, pint (ar.len I3)), (35, pint pi3)]) vs4, .gone, .arr q.1.2.2 5 1 1 true]⟩,
         fun q => its4.length - q.1.1, [.slot 5 5], _, ⟨(0, 0, []), Nat.zero_le _, rfl, rfl⟩, rfl, ?_, ?_⟩
        ·conv => cbv
         simp
        rintro ⟨⟨p4, pi4, Z4⟩, hq⟩
        have hp4 : p4 ≤ its4.length := hq.1
        have hpi4 : pi4 = (p4 : Int) := hq.2.1
        have hZ4 : Z4 = (encs (its4.take p4)).map b8 := hq.2.2
        have hZn4 : Z4.length = (encs (its4.take p4)).length := by rw [hZ4, List.length_map]
        have hZle4 := encs_le its4 p4
        dsimp only
        conv => cbv
        refine ⟨fun h => ?_, fun h => ?_⟩
        ·have g' := cLt har (b := ar.len I4) h
         have hlt4 : p4 < its4.length := by omega
         obtain ⟨x, hx4⟩ : ∃ t, its4[p4]? = some t := ⟨_, List.getElem?_eq_getElem hlt4⟩
         have hxb5 := bulk_get hx4
         have hxd5 := dep_get hx4
         have hdt4 := encs_take hx4
         have hdle4 := encs_le its4 (p4 + 1)
         rw [hdt4, List.length_append] at hdle4
         obtain ⟨l5, d5, sd5, its5, ss5⟩ := x
         have hxb5 : 1 + d5.length + bulks its5 ≤ bulks its4 := hxb5
         obtain ⟨D5, hD5⟩ : ∃ D, D = d5.map b8 := ⟨_, rfl⟩
         obtain ⟨I5, hI5⟩ : ∃ I, I = rowsOf its5 := ⟨_, rfl⟩
         have rx4 : I4[pi4.toNat]? = some [.c (.v (.bool l5)), .c (.sl D5 sd5), .c (.sl I5 ss5)] := by
          rw [hI4, hpi4, Int.toNat_natCast, rowsOf_get hx4, hD5, hI5]; rfl
         cases l5 with
         | false =>
          conv => cbv
          refine ⟨_, by omega, rx4, rfl, ?_⟩
          conv => cbv
          refine call_in har hΓ4 Tryd.func31 rfl fun Γ5 hΓ5 vs5 => ?_
          conv => cbv
          refine onT n2 ?_
          have hDl5 : ar.len D5 = (d5.length : Int) := by rw [lenIs har, hD5, List.length_map]
          have hDn5 : D5.length = d5.length := by rw [hD5, List.length_map]
          obtain ⟨H, hH⟩ : ∃ H, H = (hd 128 d5.length).map b8 := ⟨_, rfl⟩
          have hhl := hd_len (f := 128) (n := d5.length) (by omega)
          have hHn : H.length = (hd 128 d5.length).length := by rw [hH, List.length_map]
          have hDy : ∀ y ∈ D5, rlen y = 1 := by rw [hD5]; exact b8_all _
          have hHy : ∀ y ∈ H, rlen y = 1 := by rw [hH]; exact b8_all _
          have s1 : (Z4.length + H.length) * 1 ≤ 140737488355328 ∧ ∀ y ∈ H, rlen y = 1 := ⟨by omega, hHy⟩
          have s2 : ((ar.app Z4 H).length + D5.length) * 1 ≤ 140737488355328 ∧ ∀ y ∈ D5, rlen y = 1 := ⟨by rw [appIs har, List.length_append]; (try simp only [List.length_nil]); omega, hDy⟩
          have s3 : (Z4.length + D5.length) * 1 ≤ 140737488355328 ∧ ∀ y ∈ D5, rlen y = 1 := ⟨by omega, hDy⟩
          have hEq1 : (d5.length ≠ 1 ∨ 128 ≤ d5.getD 0 0) → ar.app (ar.app Z4 H) D5 = (encs (its4.take (p4 + 1))).map b8 := fun hc => by
           rw [appIs har, appIs har, hZ4, hdt4, enc, hH, hD5, encT, if_pos hc]; simp only [List.map_append, List.nil_append, List.append_assoc]
          have hEq2 : ¬ (d5.length ≠ 1 ∨ 128 ≤ d5.getD 0 0) → ar.app Z4 D5 = (encs (its4.take (p4 + 1))).map b8 := fun hc => by
           rw [appIs har, hZ4, hdt4, enc, hD5, encT, if_neg hc]; simp only [List.map_append, List.nil_append]
          have callH : ∀ (Γ : Ctx) (d' : Nat) (k : List PR → Prop) (R : Prop), Γ = ctx Tryd.prog d' → k [.s (.sl H [])] → Γ.g 51 [.s (.v (.int .u8 128)), .s (.v (.int .i64 (ar.len D5)))] k ∨ R := fun Γ d' k R hΓ hk => call_by hΓ head_sound ⟨128, d5.length, by rw [hDl5], by omega, by omega, by omega, by rw [← hH]; exact hk⟩
          conv => cbv
          refine ⟨fun h => ?_, fun h => ?_⟩
          ·have g := cNne har (a := ar.len D5) (b := 1) h
           obtain ⟨b, hdb⟩ : ∃ b, d5 = [b] := by
            match d5, (show d5.length = 1 by omega) with
            | [b], _ => exact ⟨b, rfl⟩
           have hDb : D5 = [[.c (.v (.int .u8 b))]] := by rw [hD5, hdb]; rfl
           have hD0 : D5[(0 : Int).toNat]? = some [.c (.v (.int .u8 b))] := by rw [hDb]; rfl
           conv => cbv
           refine ⟨_, by omega, hD0, rfl, ?_⟩
           conv => cbv
           refine ⟨fun h => ?_, fun h => ?_⟩
           ·have g2 := cGe har (a := b) (b := 128) h
            conv => cbv
            refine callH _ _ _ _ hΓ5 ?_
            conv => cbv
            refine ⟨fun _ => s1, ?_⟩
            conv => cbv
            refine ⟨fun _ => s2, ?_⟩
            refine ⟨⟨(p4 + 1, ar.ib .add .i64 pi4 1, ar.app (ar.app Z4 H) D5), hlt4, iSucc har hpi4 (by omega), hEq1 (by right; rw [hdb]; exact g2)⟩, ?_, ?_⟩
            ·dsimp only
             conv => cbv
             simp
            ·show its4.length - (p4 + 1) < its4.length - p4
             omega
           ·have g2 := cNge har (a := b) (b := 128) h
            conv => cbv
            refine ⟨fun _ => s3, ?_⟩
            refine ⟨⟨(p4 + 1, ar.ib .add .i64 pi4 1, ar.app Z4 D5), hlt4, iSucc har hpi4 (by omega), hEq2 (by rw [hdb]; simp; omega)⟩, ?_, ?_⟩
            ·dsimp only
             conv => cbv
             simp
            ·show its4.length - (p4 + 1) < its4.length - p4
             omega
          ·have g := cNe har (a := ar.len D5) (b := 1) h
           conv => cbv
           refine callH _ _ _ _ hΓ5 ?_
           conv => cbv
           refine ⟨fun _ => s1, ?_⟩
           conv => cbv
           refine ⟨fun _ => s2, ?_⟩
           refine ⟨⟨(p4 + 1, ar.ib .add .i64 pi4 1, ar.app (ar.app Z4 H) D5), hlt4, iSucc har hpi4 (by omega), hEq1 (by left; omega)⟩, ?_, ?_⟩
           ·dsimp only
            conv => cbv
            simp
           ·show its4.length - (p4 + 1) < its4.length - p4
            omega
         | true =>
          have := depth_pos hxd5 (by omega)
          cases this
        have g' := cNlt har (b := ar.len I4) h
        have hpe4 : p4 = its4.length := by omega
        rw [hpe4, List.take_length] at hZ4 hZn4
        obtain ⟨H, hH⟩ : ∃ H, H = (hd 192 (encs its4).length).map b8 := ⟨_, rfl⟩
        have hhl := hd_len (f := 192) (n := (encs its4).length) (by omega)
        have hHn : H.length = (hd 192 (encs its4).length).length := by rw [hH, List.length_map]
        have hZl : ar.len Z4 = ((encs its4).length : Int) := by rw [lenIs har, hZn4]
        have hZy : ∀ y ∈ Z4, rlen y = 1 := by rw [hZ4]; exact b8_all _
        have hHy : ∀ y ∈ H, rlen y = 1 := by rw [hH]; exact b8_all _
        have s1 : (Z3.length + H.length) * 1 ≤ 140737488355328 ∧ ∀ y ∈ H, rlen y = 1 := ⟨by omega, hHy⟩
        have s2 : ((ar.app Z3 H).length + Z4.length) * 1 ≤ 140737488355328 ∧ ∀ y ∈ Z4, rlen y = 1 := ⟨by rw [appIs har, List.length_append]; (try simp only [List.length_nil]); omega, hZy⟩
        have hres : ar.app (ar.app Z3 H) Z4 = (encs (its3.take (p3 + 1))).map b8 := by
         rw [appIs har, appIs har, hZ3, hdt3, enc, hZ4, hH]; simp only [List.map_append, List.nil_append, List.append_assoc]
        have callH : ∀ (Γ : Ctx) (d' : Nat) (k : List PR → Prop) (R : Prop), Γ = ctx Tryd.prog d' → k [.s (.sl H [])] → Γ.g 51 [.s (.v (.int .u8 192)), .s (.v (.int .i64 (ar.len Z4)))] k ∨ R := fun Γ d' k R hΓ hk => call_by hΓ head_sound ⟨192, (encs its4).length, by rw [hZl], by omega, by omega, by omega, by rw [← hH]; exact hk⟩
        conv => cbv
        refine callH _ _ _ _ hΓ4 ?_
        conv => cbv
        refine ⟨fun _ => s1, ?_⟩
        conv => cbv
        refine ⟨fun _ => s2, ?_⟩
        refine ⟨⟨(p3 + 1, ar.ib .add .i64 pi3 1, ar.app (ar.app Z3 H) Z4), hlt3, iSucc har hpi3 (by omega), hres⟩, ?_, ?_⟩
        ·dsimp only
         conv => cbv
         simp
        ·show its3.length - (p3 + 1) < its3.length - p3
         omega
      have g' := cNlt har (b := ar.len I3) h
      have hpe3 : p3 = its3.length := by omega
      rw [hpe3, List.take_length] at hZ3 hZn3
      obtain ⟨H, hH⟩ : ∃ H, H = (hd 192 (encs its3).length).map b8 := ⟨_, rfl⟩
      have hhl := hd_len (f := 192) (n := (encs its3).length) (by omega)
      have hHn : H.length = (hd 192 (encs its3).length).length := by rw [hH, List.length_map]
      have hZl : ar.len Z3 = ((encs its3).length : Int) := by rw [lenIs har, hZn3]
      have hZy : ∀ y ∈ Z3, rlen y = 1 := by rw [hZ3]; exact b8_all _
      have hHy : ∀ y ∈ H, rlen y = 1 := by rw [hH]; exact b8_all _
      have s1 : (Z2.length + H.length) * 1 ≤ 140737488355328 ∧ ∀ y ∈ H, rlen y = 1 := ⟨by omega, hHy⟩
      have s2 : ((ar.app Z2 H).length + Z3.length) * 1 ≤ 140737488355328 ∧ ∀ y ∈ Z3, rlen y = 1 := ⟨by rw [appIs har, List.length_append]; (try simp only [List.length_nil]); omega, hZy⟩
      have hres : ar.app (ar.app Z2 H) Z3 = (encs (its2.take (p2 + 1))).map b8 := by
       rw [appIs har, appIs har, hZ2, hdt2, enc, hZ3, hH]; simp only [List.map_append, List.nil_append, List.append_assoc]
      have callH : ∀ (Γ : Ctx) (d' : Nat) (k : List PR → Prop) (R : Prop), Γ = ctx Tryd.prog d' → k [.s (.sl H [])] → Γ.g 51 [.s (.v (.int .u8 192)), .s (.v (.int .i64 (ar.len Z3)))] k ∨ R := fun Γ d' k R hΓ hk => call_by hΓ head_sound ⟨192, (encs its3).length, by rw [hZl], by omega, by omega, by omega, by rw [← hH]; exact hk⟩
      conv => cbv
      refine callH _ _ _ _ hΓ3 ?_
      conv => cbv
      refine ⟨fun _ => s1, ?_⟩
      conv => cbv
      refine ⟨fun _ => s2, ?_⟩
      refine ⟨⟨(p2 + 1, ar.ib .add .i64 pi2 1, ar.app (ar.app Z2 H) Z3), hlt2, iSucc har hpi2 (by omega), hres⟩, ?_, ?_⟩
      ·dsimp only
       conv => cbv
       simp
      ·show its2.length - (p2 + 1) < its2.length - p2
       omega
    have g' := cNlt har (b := ar.len I2) h
    have hpe2 : p2 = its2.length := by omega
    rw [hpe2, List.take_length] at hZ2 hZn2
    obtain ⟨H, hH⟩ : ∃ H, H = (hd 192 (encs its2).length).map b8 := ⟨_, rfl⟩
    have hhl := hd_len (f := 192) (n := (encs its2).length) (by omega)
    have hHn : H.length = (hd 192 (encs its2).length).length := by rw [hH, List.length_map]
    have hZl : ar.len Z2 = ((encs its2).length : Int) := by rw [lenIs har, hZn2]
    have hZy : ∀ y ∈ Z2, rlen y = 1 := by rw [hZ2]; exact b8_all _
    have hHy : ∀ y ∈ H, rlen y = 1 := by rw [hH]; exact b8_all _
    have s1 : (Z1.length + H.length) * 1 ≤ 140737488355328 ∧ ∀ y ∈ H, rlen y = 1 := ⟨by omega, hHy⟩
    have s2 : ((ar.app Z1 H).length + Z2.length) * 1 ≤ 140737488355328 ∧ ∀ y ∈ Z2, rlen y = 1 := ⟨by rw [appIs har, List.length_append]; (try simp only [List.length_nil]); omega, hZy⟩
    have hres : ar.app (ar.app Z1 H) Z2 = (encs (its1.take (p1 + 1))).map b8 := by
     rw [appIs har, appIs har, hZ1, hdt1, enc, hZ2, hH]; simp only [List.map_append, List.nil_append, List.append_assoc]
    have callH : ∀ (Γ : Ctx) (d' : Nat) (k : List PR → Prop) (R : Prop), Γ = ctx Tryd.prog d' → k [.s (.sl H [])] → Γ.g 51 [.s (.v (.int .u8 192)), .s (.v (.int .i64 (ar.len Z2)))] k ∨ R := fun Γ d' k R hΓ hk => call_by hΓ head_sound ⟨192, (encs its2).length, by rw [hZl], by omega, by omega, by omega, by rw [← hH]; exact hk⟩
    conv => cbv
    refine callH _ _ _ _ hΓ2 ?_
    conv => cbv
    refine ⟨fun _ => s1, ?_⟩
    conv => cbv
    refine ⟨fun _ => s2, ?_⟩
    refine ⟨⟨(p1 + 1, ar.ib .add .i64 pi1 1, ar.app (ar.app Z1 H) Z2), hlt1, iSucc har hpi1 (by omega), hres⟩, ?_, ?_⟩
    ·dsimp only
     conv => cbv
     simp
    ·show its1.length - (p1 + 1) < its1.length - p1
     omega
  have g' := cNlt har (b := ar.len I1) h
  have hpe1 : p1 = its1.length := by omega
  rw [hpe1, List.take_length] at hZ1 hZn1
  obtain ⟨H, hH⟩ : ∃ H, H = (hd 192 (encs its1).length).map b8 := ⟨_, rfl⟩
  have hhl := hd_len (f := 192) (n := (encs its1).length) (by omega)
  have hHn : H.length = (hd 192 (encs its1).length).length := by rw [hH, List.length_map]
  have hZl : ar.len Z1 = ((encs its1).length : Int) := by rw [lenIs har, hZn1]
  have hZy : ∀ y ∈ Z1, rlen y = 1 := by rw [hZ1]; exact b8_all _
  have hHy : ∀ y ∈ H, rlen y = 1 := by rw [hH]; exact b8_all _
  have s1 : (0 + H.length) * 1 ≤ 140737488355328 ∧ ∀ y ∈ H, rlen y = 1 := ⟨by omega, hHy⟩
  have s2 : ((ar.app [] H).length + Z1.length) * 1 ≤ 140737488355328 ∧ ∀ y ∈ Z1, rlen y = 1 := ⟨by rw [appIs har, List.length_append]; (try simp only [List.length_nil]); omega, hZy⟩
  have hres : ar.app (ar.app [] H) Z1 = (enc (It.mk true d1 sd1 its1 ss1)).map b8 := by
   rw [appIs har, appIs har, enc, hZ1, hH]; simp only [List.map_append, List.nil_append, List.append_assoc]
  have callH : ∀ (Γ : Ctx) (d' : Nat) (k : List PR → Prop) (R : Prop), Γ = ctx Tryd.prog d' → k [.s (.sl H [])] → Γ.g 51 [.s (.v (.int .u8 192)), .s (.v (.int .i64 (ar.len Z1)))] k ∨ R := fun Γ d' k R hΓ hk => call_by hΓ head_sound ⟨192, (encs its1).length, by rw [hZl], by omega, by omega, by omega, by rw [← hH]; exact hk⟩
  conv => cbv
  refine callH _ _ _ _ hΓ1 ?_
  conv => cbv
  refine ⟨fun _ => s1, ?_⟩
  conv => cbv
  refine ⟨fun _ => s2, ?_⟩
  have hk : k [.s (oB (ar.app (ar.app [] H) Z1)), .s (.v (.int .i64 0))] := by rw [hres]; exact hk
  conv => cbv
  exact ⟨[.s (oB _), .s (.v (.int .i64 0))], ⟨⟨rfl, rfl, rfl, rfl, rfl⟩, rfl, trivial⟩, hk⟩
end Go.Eng
namespace Go.Eng
open Go Go.Proofs
set_option maxRecDepth 100000
set_option maxHeartbeats 8000000
set_option linter.unusedVariables false
def fieldsR (t : Tx) : List It × Int := if draftE t ≠ 0 then ([], draftE t) else itsR t ((txFs t.ty).take ((txFs t.ty).length - 3))
theorem fields_own : Sound Tryd.prog 11 fun args k => ∃ (t : Tx), args = [.a t.row] ∧ t.ok ∧ t.fit ∧ k [.s (oI (orowsOf (fieldsR t).1)), .s (.v (.int .i64 (fieldsR t).2))] := by
 refine Sound.of_bodyT [] 0 tt_ok ent_ok Tryd.func11 rfl ?_
 rintro ar har Γ hΓ args k ⟨⟨tty, tch, tno, tpr, tti, tca, tga, tcr, tto, tva, td, tsd, tac, tsac, tbc, tbl, tsbl, tau, tsau, tv, tr, ts⟩, hargs, hto, hft, hk⟩
 obtain ⟨t, ht⟩ : ∃ t, t = Tx.mk tty tch tno tpr tti tca tga tcr tto tva td tsd tac tsac tbc tbl tsbl tau tsau tv tr ts := ⟨_, rfl⟩
 obtain ⟨tWpr, thWpr⟩ : ∃ x, x = w4 tpr := ⟨_, rfl⟩
 obtain ⟨tWti, thWti⟩ : ∃ x, x = w4 tti := ⟨_, rfl⟩
 obtain ⟨tWca, thWca⟩ : ∃ x, x = w4 tca := ⟨_, rfl⟩
 obtain ⟨tWva, thWva⟩ : ∃ x, x = w4 tva := ⟨_, rfl⟩
 obtain ⟨tWbc, thWbc⟩ : ∃ x, x = w4 tbc := ⟨_, rfl⟩
 obtain ⟨tWv, thWv⟩ : ∃ x, x = w4 tv := ⟨_, rfl⟩
 obtain ⟨tWr, thWr⟩ : ∃ x, x = w4 tr := ⟨_, rfl⟩
 obtain ⟨tWs, thWs⟩ : ∃ x, x = w4 ts := ⟨_, rfl⟩
 obtain ⟨tWto, thWto⟩ : ∃ x, x = u8s tto := ⟨_, rfl⟩
 obtain ⟨tD, thD⟩ : ∃ x, x = td.map b8' := ⟨_, rfl⟩
 obtain ⟨tA, thA⟩ : ∃ x, x = tac.map Ent.row := ⟨_, rfl⟩
 obtain ⟨tB, thB⟩ : ∃ x, x = tbl.map key := ⟨_, rfl⟩
 obtain ⟨tU, thU⟩ : ∃ x, x = tau.map Au.row := ⟨_, rfl⟩
 obtain ⟨tIch, thIch⟩ : ∃ x : Int, x = (tch : Int) := ⟨_, rfl⟩
 obtain ⟨tIno, thIno⟩ : ∃ x : Int, x = (tno : Int) := ⟨_, rfl⟩
 obtain ⟨tIga, thIga⟩ : ∃ x : Int, x = (tga : Int) := ⟨_, rfl⟩
 have hrow : t.row = [.c (.v (.int .i64 tty)), .c (.v (.int .u64 tIch)), .c (.v (.int .u64 tIno)), .r 4 tWpr, .r 4 tWti, .r 4 tWca, .c (.v (.int .u64 tIga)), .c (.v (.bool tcr)), .r 20 tWto, .r 4 tWva, .c (.sl tD tsd), .c (.sl tA tsac), .r 4 tWbc, .c (.sl tB tsbl), .c (.sl tU tsau), .r 4 tWv, .r 4 tWr, .r 4 tWs] := by rw [ht]; exact (by rw [thWpr, thWti, thWca, thWva, thWbc, thWv, thWr, thWs, thWto, thD, thA, thB, thU, thIch, thIno, thIga]; rfl)
 rw [← ht] at hargs hto hft hk
 have hty : t.ty = tty := by rw [ht]
 obtain ⟨de, hde⟩ : ∃ x, x = draftE t := ⟨_, rfl⟩
 obtain ⟨F, hF⟩ : ∃ x, x = (txFs tty).map irow := ⟨_, rfl⟩
 obtain ⟨fs, hfs⟩ : ∃ x, x = (txFs tty).take ((txFs tty).length - 3) := ⟨_, rfl⟩
 obtain ⟨ie, hie⟩ : ∃ x, x = (itsR t fs).2 := ⟨_, rfl⟩
 obtain ⟨I, hI⟩ : ∃ x, x = orowsOf (itsR t fs).1 := ⟨_, rfl⟩
 have hlen3 : 3 ≤ (txFs tty).length := by unfold txFs; (repeat' split) <;> decide
 have hlen14 := txFs_len tty
 have hFl : ar.len F = ((txFs tty).length : Int) := by rw [lenIs har, hF, List.length_map]
 have hsub : ar.ib .sub .i64 (ar.len F) 3 = (((txFs tty).length - 3 : Nat) : Int) := by rw [hFl, iSub har (by omega)]; omega
 have hmid : ar.mid F 0 (ar.nat (ar.ib .sub .i64 (ar.len F) 3)) = fs.map irow := by
  rw [natOf har hsub, midIs har, hfs, hF, List.map_take, List.drop_zero]
 have callD : ∀ (Γ : Ctx) (d' : Nat) (k : List PR → Prop) (R : Prop), Γ = ctx Tryd.prog d' → k [.s (.v (.int .i64 de))] → Γ.g 18 [.a [.c (.v (.int .i64 tty)), .c (.v (.int .u64 tIch)), .c (.v (.int .u64 tIno)), .r 4 tWpr, .r 4 tWti, .r 4 tWca, .c (.v (.int .u64 tIga)), .c (.v (.bool tcr)), .r 20 tWto, .r 4 tWva, .c (.sl tD tsd), .c (.sl tA tsac), .r 4 tWbc, .c (.sl tB tsbl), .c (.sl tU tsau), .r 4 tWv, .r 4 tWr, .r 4 tWs]] k ∨ R := fun Γ d' k R hΓ hk => call_by hΓ draft_sound ⟨t, by rw [hrow], hto, hft.small, by rw [← hde]; exact hk⟩
 have callR : ∀ (Γ : Ctx) (d' : Nat) (k : List PR → Prop) (R : Prop), Γ = ctx Tryd.prog d' → k [.s (.sl F [])] → Γ.g 21 [.s (.v (.int .i64 tty))] k ∨ R := fun Γ d' k R hΓ hk => call_by hΓ rowOf_sound ⟨tty, rfl, by rw [← hF]; exact hk⟩
 have callI : ∀ (G s : List (List PS)) (Γ : Ctx) (d' : Nat) (k : List PR → Prop), Γ = ctx Tryd.prog d' → G = fs.map irow → k [.s (oI I), .s (.v (.int .i64 ie))] → Γ.g 20 [.a [.c (.v (.int .i64 tty)), .c (.v (.int .u64 tIch)), .c (.v (.int .u64 tIno)), .r 4 tWpr, .r 4 tWti, .r 4 tWca, .c (.v (.int .u64 tIga)), .c (.v (.bool tcr)), .r 20 tWto, .r 4 tWva, .c (.sl tD tsd), .c (.sl tA tsac), .r 4 tWbc, .c (.sl tB tsbl), .c (.sl tU tsau), .r 4 tWv, .r 4 tWr, .r 4 tWs], .s (.sl G s)] k := fun G s Γ d' k hΓ hG hk => call_by' hΓ items_own ⟨t, fs, s, by rw [hrow, hG], hto, hft, by rw [hfs, List.length_take]; omega, by rw [← hI, ← hie]; exact hk⟩
 have hE : fieldsR t = if de ≠ 0 then ([], de) else itsR t fs := by
  unfold fieldsR; rw [← hde, hty, ← hfs]
 rw [hE] at hk
 rw [hrow] at hargs
 have hbad : de ≠ 0 → k [.s (oI []), .s (.v (.int .i64 de))] := fun h => by rw [if_pos h] at hk; exact hk
 have hgood : de = 0 → k [.s (oI I), .s (.v (.int .i64 ie))] := fun h => by rw [if_neg (by omega), ← hI, ← hie] at hk; exact hk
 clear ht hE hk
 have s1 : 0 ≤ ar.ib .sub .i64 (ar.len F) 3 ∧ ar.ib .sub .i64 (ar.len F) 3 ≤ ((F.length + ([] : List (List PS)).length : Nat) : Int) :=
  ⟨by rw [hsub]; omega, by rw [hsub, hF, List.length_map, List.length_nil]; omega⟩
 subst hargs
 conv => cbv
 refine callD _ _ _ _ hΓ ?_
 conv => cbv
 refine ⟨fun h => ?_, fun h => ?_⟩
 ·have g := cNe har (a := de) (b := 0) h
  have hk := hbad g
  conv => cbv
  exact ⟨[.s (oI []), .s (.v (.int .i64 de))], ⟨⟨rfl, rfl, by decide⟩, rfl, trivial⟩, hk⟩
 have g := cNne har (a := de) (b := 0) h
 have hk := hgood g
 conv => cbv
 refine callR _ _ _ _ hΓ ?_
 conv => cbv
 refine ⟨by rw [har]; kernel_rfl, ?_⟩
 conv => cbv
 refine ⟨fun _ => s1, ?_⟩
 refine callI _ _ _ _ _ hΓ hmid ?_
 conv => cbv
 exact ⟨_, loosRs_refl _, hk⟩
end Go.Eng
