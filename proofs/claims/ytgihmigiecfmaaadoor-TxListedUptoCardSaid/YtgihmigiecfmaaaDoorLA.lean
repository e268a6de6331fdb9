import Derived.Test.YtgihmigiecfmaaaDoorRC
import Derived.Test.YtgihmigiecfmaaaDoorFA
namespace Go.Eng
open Go Go.Proofs
set_option maxRecDepth 100000
set_option maxHeartbeats 16000000
set_option linter.unusedVariables false
def encT (d : List Int) : List Int := if d.length ≠ 1 ∨ 128 ≤ d.getD 0 0 then hd 128 d.length ++ d else d
end Go.Eng
namespace Go.Eng
open Go Go.Proofs
set_option linter.unusedSimpArgs false
set_option linter.unusedVariables false
set_option maxRecDepth 100000
set_option maxHeartbeats 64000000
set_option linter.unusedVariables false
mutual
def enc : It → List Int
 | .mk true _ _ its _ => hd 192 (encs its).length ++ encs its
 | .mk false d _ _ _ => encT d
def encs : List It → List Int
 | [] => []
 | x :: xs => enc x ++ encs xs
end
theorem encs_append (a b : List It) : encs (a ++ b) = encs a ++ encs b := by
 induction a with
 | nil => rfl
 | cons x l ih => rw [List.cons_append, encs, encs, ih, List.append_assoc]
theorem encs_take {l : List It} {p : Nat} {t : It} (h : l[p]? = some t) : encs (l.take (p + 1)) = encs (l.take p) ++ enc t := by
 rw [take_succ_get h, encs_append, encs, encs, List.append_nil]
theorem encs_le (l : List It) (p : Nat) : (encs (l.take p)).length ≤ (encs l).length := by
 conv => rhs; rw [← List.take_append_drop p l, encs_append, List.length_append]
 omega
mutual
theorem enc_len : ∀ x : It, x.bulk ≤ 2 ^ 40 → (enc x).length ≤ 10 * x.bulk
 | .mk true d sd its ss, h => by
  simp only [It.bulk] at h
  have h1 := encs_len' its (by omega)
  have h2 := hd_len (f := 192) (n := (encs its).length) (by omega)
  simp only [enc, It.bulk, List.length_append]; omega
 | .mk false d sd its ss, h => by
  simp only [It.bulk] at h
  have h2 := hd_len (f := 128) (n := d.length) (by omega)
  simp only [enc, It.bulk, encT]
  split
  ·rw [List.length_append]; omega
  ·omega
theorem encs_len' : ∀ xs : List It, bulks xs ≤ 2 ^ 40 → (encs xs).length ≤ 10 * bulks xs
 | [], _ => by simp [encs]
 | x :: xs, h => by
  simp only [bulks] at h
  have h1 := enc_len x (by omega)
  have h2 := encs_len' xs (by omega)
  simp only [encs, bulks, List.length_append]; omega
end
theorem encs_len (xs : List It) : bulks xs ≤ 2 ^ 40 → (encs xs).length ≤ 10 * bulks xs := encs_len' xs
theorem dep_get {x : It} {p : Nat} {its : List It} (h : its[p]? = some x) : dep x ≤ depths its := by
 have : its = its.take p ++ x :: its.drop (p + 1) := by
  obtain ⟨hlt, e⟩ := List.getElem?_eq_some_iff.1 h
  rw [← e, List.getElem_cons_drop, List.take_append_drop]
 rw [this, deps_append, depths]; omega
theorem depth_pos {d : List Int} {sd : List (List PS)} {its : List It} {ss : List (List PS)} {n : Nat} (h : dep (It.mk true d sd its ss) ≤ n) (h0 : n = 0) : False := by
 simp only [dep] at h; omega
theorem encodeT_sound : Sound Tryd.prog 13 fun args k => ∃ (it : It), args = [.a it.row] ∧ it.bulk ≤ 2 ^ 34 ∧ dep it ≤ 4 ∧ k [.s (.sl (if errOf it = 0 then (enc it).map b8 else []) []), .s (.v (.int .i64 (errOf it)))] := by
 refine Sound.of_bodyI 6 tt_ok ent_ok Tryd.func13 rfl ?_
 rintro ar har Γ hΓ args k ⟨⟨l1, d1, sd1, its1, ss1⟩, hargs, hb, hdp, hk⟩
 obtain ⟨D1, hD1'⟩ : ∃ D, D = d1.map b8 := ⟨_, rfl⟩
 obtain ⟨I1, hI1⟩ : ∃ I, I = rowsOf its1 := ⟨_, rfl⟩
 have hD1v := hD1'
 have hrow : (It.mk l1 d1 sd1 its1 ss1).row = [.c (.v (.bool l1)), .c (.sl D1 sd1), .c (.sl I1 ss1)] := by rw [hD1', hI1]; rfl
 obtain ⟨e, he⟩ : ∃ e, e = errOf (It.mk l1 d1 sd1 its1 ss1) := ⟨_, rfl⟩
 have callC : ∀ (Γ : Ctx) (d' : Nat) (k : List PR → Prop) (R : Prop), Γ = ctx Tryd.prog d' → k [.s (.v (.int .i64 (e : Int)))] → Γ.g 30 [.a [.c (.v (.bool l1)), .c (.sl D1 sd1), .c (.sl I1 ss1)]] k ∨ R := fun Γ d' k R hΓ hk => call_by hΓ check_sound ⟨_, by rw [hrow], by omega, by rw [← he]; exact hk⟩
 rw [← he] at hk
 obtain ⟨z, hz⟩ : ∃ z : Int, z = (e : Int) := ⟨_, rfl⟩
 rw [← hz] at callC hk
 simp only [It.bulk] at hb
 have n1 : ar.nb true = false := by rw [har]; rfl
 have n2 : ar.nb false = true := by rw [har]; rfl
 rw [hrow] at hargs
 subst hargs
 conv => cbv
 refine callC _ _ _ _ hΓ ?_
 conv => cbv
 refine ⟨fun h => ?_, fun h => ?_⟩
 ·have g := cNe har (a := z) (b := 0) h
  rw [if_neg (by omega)] at hk
  conv => cbv
  exact hk
 have g := cNne har (a := z) (b := 0) h
 rw [if_pos (by omega), g] at hk
 cases l1 with
 | false =>
  conv => cbv
  refine call_in har hΓ Tryd.func31 rfl fun Γ1 hΓ1 vs1 => ?_
  conv => cbv
  refine onT n2 ?_
  have hD1 := hD1v
  have hDl1 : ar.len D1 = (d1.length : Int) := by rw [lenIs har, hD1, List.length_map]
  have hDn1 : D1.length = d1.length := by rw [hD1, List.length_map]
  obtain ⟨H, hH⟩ : ∃ H, H = (hd 128 d1.length).map b8 := ⟨_, rfl⟩
  have hhl := hd_len (f := 128) (n := d1.length) (by omega)
  have hHn : H.length = (hd 128 d1.length).length := by rw [hH, List.length_map]
  have hDy : ∀ y ∈ D1, rlen y = 1 := by rw [hD1]; exact b8_all _
  have hHy : ∀ y ∈ H, rlen y = 1 := by rw [hH]; exact b8_all _
  have s1 : (0 + H.length) * 1 ≤ 140737488355328 ∧ ∀ y ∈ H, rlen y = 1 := ⟨by omega, hHy⟩
  have s2 : ((ar.app [] H).length + D1.length) * 1 ≤ 140737488355328 ∧ ∀ y ∈ D1, rlen y = 1 := ⟨by rw [appIs har, List.length_append]; (try simp only [List.length_nil]); omega, hDy⟩
  have s3 : (0 + D1.length) * 1 ≤ 140737488355328 ∧ ∀ y ∈ D1, rlen y = 1 := ⟨by omega, hDy⟩
  have hEq1 : (d1.length ≠ 1 ∨ 128 ≤ d1.getD 0 0) → ar.app (ar.app [] H) D1 = (enc (It.mk false d1 sd1 its1 ss1)).map b8 := fun hc => by
   rw [appIs har, appIs har, enc, hH, hD1, encT, if_pos hc]; simp only [List.map_append, List.nil_append, List.append_assoc]
  have hEq2 : ¬ (d1.length ≠ 1 ∨ 128 ≤ d1.getD 0 0) → ar.app [] D1 = (enc (It.mk false d1 sd1 its1 ss1)).map b8 := fun hc => by
   rw [appIs har, enc, hD1, encT, if_neg hc]; simp only [List.map_append, List.nil_append]
  have callH : ∀ (Γ : Ctx) (d' : Nat) (k : List PR → Prop) (R : Prop), Γ = ctx Tryd.prog d' → k [.s (.sl H [])] → Γ.g 51 [.s (.v (.int .u8 128)), .s (.v (.int .i64 (ar.len D1)))] k ∨ R := fun Γ d' k R hΓ hk => call_by hΓ head_sound ⟨128, d1.length, by rw [hDl1], by omega, by omega, by omega, by rw [← hH]; exact hk⟩
  conv => cbv
  refine ⟨fun h => ?_, fun h => ?_⟩
  ·have g := cNne har (a := ar.len D1) (b := 1) h
   obtain ⟨b, hdb⟩ : ∃ b, d1 = [b] := by
    match d1, (show d1.length = 1 by omega) with
    | [b], _ => exact ⟨b, rfl⟩
   have hDb : D1 = [[.c (.v (.int .u8 b))]] := by rw [hD1, hdb]; rfl
   have hD0 : D1[(0 : Int).toNat]? = some [.c (.v (.int .u8 b))] := by rw [hDb]; rfl
   conv => cbv
   refine ⟨_, by omega, hD0, rfl, ?_⟩
   conv => cbv
   refine ⟨fun h => ?_, fun h => ?_⟩
   ·have g2 := cGe har (a := b) (b := 128) h
    conv => cbv
    refine callH _ _ _ _ hΓ1 ?_
    conv => cbv
    refine ⟨fun _ => s1, ?_⟩
    conv => cbv
    refine ⟨fun _ => s2, ?_⟩
    have hk : k [.s (.sl (ar.app (ar.app [] H) D1) []), .s (.v (.int .i64 0))] := by rw [hEq1 (by right; rw [hdb]; exact g2)]; exact hk
    conv => cbv
    exact hk
   ·have g2 := cNge har (a := b) (b := 128) h
    conv => cbv
    refine ⟨fun _ => s3, ?_⟩
    have hk : k [.s (.sl (ar.app [] D1) []), .s (.v (.int .i64 0))] := by rw [hEq2 (by rw [hdb]; simp; omega)]; exact hk
    conv => cbv
    exact hk
  ·have g := cNe har (a := ar.len D1) (b := 1) h
   conv => cbv
   refine callH _ _ _ _ hΓ1 ?_
   conv => cbv
   refine ⟨fun _ => s1, ?_⟩
   conv => cbv
   refine ⟨fun _ => s2, ?_⟩
   have hk : k [.s (.sl (ar.app (ar.app [] H) D1) []), .s (.v (.int .i64 0))] := by rw [hEq1 (by left; omega)]; exact hk
   conv => cbv
   exact hk
 | true =>
  have hdp : depths its1 + 1 ≤ 4 := hdp
  conv => cbv
  refine call_in har hΓ Tryd.func31 rfl fun Γ1 hΓ1 vs1 => ?_
  conv => cbv
  refine onF n1 ?_
  have hIl1 : ar.len I1 = (its1.length : Int) := by rw [lenIs har, hI1, rowsOf_length]
  have hil1 := bulks_len its1
  have hel1 := encs_len its1
  conv => cbv
  refine .inr ⟨{ q : Nat × Int × List (List PS) // q.1 ≤ its1.length ∧ q.2.1 = q.1 ∧ q.2.2 = (encs (its1.take q.1)).map b8 },
   fun q => ⟨mk 50 [(0, .s .nil), (4, .s .nil), (5, .s (.own 3)), (33, .s (.p (.sl I1 ss1))), (34, pint (ar.len I1)), (35, pint q.1.2.1)], [.gone, .hid (mk 12 [(2, .s .nil), (3, .s (.lit .i64 0))]) vs1, .gone, .arr q.1.2.2 5 1 1 true]⟩,
   fun q => its1.length - q.1.1, [.slot 5 5], _, ⟨(0, 0, []), Nat.zero_le _, rfl, rfl⟩, rfl, ?_, ?_⟩
  ·conv => cbv
   simp
  rintro ⟨⟨p1, pi1, Z1⟩, hq⟩
  have hp1 : p1 ≤ its1.length := hq.1
  have hpi1 : pi1 = (p1 : Int) := hq.2.1
  have hZ1 : Z1 = (encs (its1.take p1)).map b8 := hq.2.2
  have hZn1 : Z1.length = (encs (its1.take p1)).length := by rw [hZ1, List.length_map]
  have hZle1 := encs_le its1 p1
  dsimp only
  conv => cbv
  refine ⟨fun h => ?_, fun h => ?_⟩
  ·have g' := cLt har (b := ar.len I1) h
   have hlt1 : p1 < its1.length := by omega
   obtain ⟨x, hx1⟩ : ∃ t, its1[p1]? = some t := ⟨_, List.getElem?_eq_getElem hlt1⟩
   have hxb2 := bulk_get hx1
   have hxd2 := dep_get hx1
   have hdt1 := encs_take hx1
   have hdle1 := encs_le its1 (p1 + 1)
   rw [hdt1, List.length_append] at hdle1
   obtain ⟨l2, d2, sd2, its2, ss2⟩ := x
   have hxb2 : 1 + d2.length + bulks its2 ≤ bulks its1 := hxb2
   obtain ⟨D2, hD2⟩ : ∃ D, D = d2.map b8 := ⟨_, rfl⟩
   obtain ⟨I2, hI2⟩ : ∃ I, I = rowsOf its2 := ⟨_, rfl⟩
   have rx1 : I1[pi1.toNat]? = some [.c (.v (.bool l2)), .c (.sl D2 sd2), .c (.sl I2 ss2)] := by
    rw [hI1, hpi1, Int.toNat_natCast, rowsOf_get hx1, hD2, hI2]; rfl
   cases l2 with
   | false =>
    conv => cbv
    refine ⟨_, by omega, rx1, rfl, ?_⟩
    conv => cbv
    refine call_in har hΓ1 Tryd.func31 rfl fun Γ2 hΓ2 vs2 => ?_
    conv => cbv
    refine onT n2 ?_
    have hDl2 : ar.len D2 = (d2.length : Int) := by rw [lenIs har, hD2, List.length_map]
    have hDn2 : D2.length = d2.length := by rw [hD2, List.length_map]
    obtain ⟨H, hH⟩ : ∃ H, H = (hd 128 d2.length).map b8 := ⟨_, rfl⟩
    have hhl := hd_len (f := 128) (n := d2.length) (by omega)
    have hHn : H.length = (hd 128 d2.length).length := by rw [hH, List.length_map]
    have hDy : ∀ y ∈ D2, rlen y = 1 := by rw [hD2]; exact b8_all _
    have hHy : ∀ y ∈ H, rlen y = 1 := by rw [hH]; exact b8_all _
    have s1 : (Z1.length + H.length) * 1 ≤ 140737488355328 ∧ ∀ y ∈ H, rlen y = 1 := ⟨by omega, hHy⟩
    have s2 : ((ar.app Z1 H).length + D2.length) * 1 ≤ 140737488355328 ∧ ∀ y ∈ D2, rlen y = 1 := ⟨by rw [appIs har, List.length_append]; (try simp only [List.length_nil]); omega, hDy⟩
    have s3 : (Z1.length + D2.length) * 1 ≤ 140737488355328 ∧ ∀ y ∈ D2, rlen y = 1 := ⟨by omega, hDy⟩
    have hEq1 : (d2.length ≠ 1 ∨ 128 ≤ d2.getD 0 0) → ar.app (ar.app Z1 H) D2 = (encs (its1.take (p1 + 1))).map b8 := fun hc => by
     rw [appIs har, appIs har, hZ1, hdt1, enc, hH, hD2, encT, if_pos hc]; simp only [List.map_append, List.nil_append, List.append_assoc]
    have hEq2 : ¬ (d2.length ≠ 1 ∨ 128 ≤ d2.getD 0 0) → ar.app Z1 D2 = (encs (its1.take (p1 + 1))).map b8 := fun hc => by
     rw [appIs har, hZ1, hdt1, enc, hD2, encT, if_neg hc]; simp only [List.map_append, List.nil_append]
    have callH : ∀ (Γ : Ctx) (d' : Nat) (k : List PR → Prop) (R : Prop), Γ = ctx Tryd.prog d' → k [.s (.sl H [])] → Γ.g 51 [.s (.v (.int .u8 128)), .s (.v (.int .i64 (ar.len D2)))] k ∨ R := fun Γ d' k R hΓ hk => call_by hΓ head_sound ⟨128, d2.length, by rw [hDl2], by omega, by omega, by omega, by rw [← hH]; exact hk⟩
    conv => cbv
    refine ⟨fun h => ?_, fun h => ?_⟩
    ·have g := cNne har (a := ar.len D2) (b := 1) h
     obtain ⟨b, hdb⟩ : ∃ b, d2 = [b] := by
      match d2, (show d2.length = 1 by omega) with
      | [b], _ => exact ⟨b, rfl⟩
     have hDb : D2 = [[.c (.v (.int .u8 b))]] := by rw [hD2, hdb]; rfl
     have hD0 : D2[(0 : Int).toNat]? = some [.c (.v (.int .u8 b))] := by rw [hDb]; rfl
     conv => cbv
     refine ⟨_, by omega, hD0, rfl, ?_⟩
     conv => cbv
     refine ⟨fun h => ?_, fun h => ?_⟩
     ·have g2 := cGe har (a := b) (b := 128) h
      conv => cbv
      refine callH _ _ _ _ hΓ2 ?_
      conv => cbv
      refine ⟨fun _ => s1, ?_⟩
      conv => cbv
      refine ⟨fun _ => s2, ?_⟩
      refine ⟨⟨(p1 + 1, ar.ib .add .i64 pi1 1, ar.app (ar.app Z1 H) D2), hlt1, iSucc har hpi1 (by omega), hEq1 (by right; rw [hdb]; exact g2)⟩, ?_, ?_⟩
      ·dsimp only
       conv => cbv
       simp
      ·show its1.length - (p1 + 1) < its1.length - p1
       omega
     ·have g2 := cNge har (a := b) (b := 128) h
      conv => cbv
      refine ⟨fun _ => s3, ?_⟩
      refine ⟨⟨(p1 + 1, ar.ib .add .i64 pi1 1, ar.app Z1 D2), hlt1, iSucc har hpi1 (by omega), hEq2 (by rw [hdb]; simp; omega)⟩, ?_, ?_⟩
      ·dsimp only
       conv => cbv
       simp
      ·show its1.length - (p1 + 1) < its1.length - p1
       omega
    ·have g := cNe har (a := ar.len D2) (b := 1) h
     conv => cbv
     refine callH _ _ _ _ hΓ2 ?_
     conv => cbv
     refine ⟨fun _ => s1, ?_⟩
     conv => cbv
     refine ⟨fun _ => s2, ?_⟩
     refine ⟨⟨(p1 + 1, ar.ib .add .i64 pi1 1, ar.app (ar.app Z1 H) D2), hlt1, iSucc har hpi1 (by omega), hEq1 (by left; omega)⟩, ?_, ?_⟩
     ·dsimp only
      conv => cbv
      simp
     ·show its1.length - (p1 + 1) < its1.length - p1
      omega
   | true =>
    have hxd2 : depths its2 + 1 ≤ depths its1 := hxd2
    conv => cbv
    refine ⟨_, by omega, rx1, rfl, ?_⟩
    conv => cbv
    refine call_in har hΓ1 Tryd.func31 rfl fun Γ2 hΓ2 vs2 => ?_
    conv => cbv
    refine onF n1 ?_
    have hIl2 : ar.len I2 = (its2.length : Int) := by rw [lenIs har, hI2, rowsOf_length]
    have hil2 := bulks_len its2
    have hel2 := encs_len its2
    conv => cbv
    refine .inr ⟨{ q : Nat × Int × List (List PS) // q.1 ≤ its2.length ∧ q.2.1 = q.1 ∧ q.2.2 = (encs (its2.take q.1)).map b8 },
     fun q => ⟨mk 50 [(0, .s (.own 3)), (4, .s .nil), (5, .s (.own 7)), (33, .s (.p (.sl I2 ss2))), (34, pint (ar.len I2)), (35, pint q.1.2.1)], [.gone, .hid (mk 12 [(2, .s .nil), (3, .s (.lit .i64 0))]) vs1, .gone, .arr Z1 5 1 1 true, .gone, .hid (mk 50 [(0, .s .nil), (4, .s .nil), (33, .s (.p (.sl I1 ss1))), (34, pint (ar.len I1)), (35, pint pi1)]) vs2, .gone, .arr q.1.2.2 5 1 1 true]⟩,
     fun q => its2.length - q.1.1, [.slot 5 5], _, ⟨(0, 0, []), Nat.zero_le _, rfl, rfl⟩, rfl, ?_, ?_⟩
    ·conv => cbv
     simp
    rintro ⟨⟨p2, pi2, Z2⟩, hq⟩
    have hp2 : p2 ≤ its2.length := hq.1
    have hpi2 : pi2 = (p2 : Int) := hq.2.1
    have hZ2 : Z2 = (encs (its2.take p2)).map b8 := hq.2.2
    have hZn2 : Z2.length = (encs (its2.take p2)).length := by rw [hZ2, List.length_map]
    have hZle2 := encs_le its2 p2
    dsimp only
    conv => cbv
    refine ⟨fun h => ?_, fun h => ?_⟩
    ·have g' := cLt har (b := ar.len I2) h
     have hlt2 : p2 < its2.length := by omega
     obtain ⟨x, hx2⟩ : ∃ t, its2[p2]? = some t := ⟨_, List.getElem?_eq_getElem hlt2⟩
     have hxb3 := bulk_get hx2
     have hxd3 := dep_get hx2
     have hdt2 := encs_take hx2
     have hdle2 := encs_le its2 (p2 + 1)
     rw [hdt2, List.length_append] at hdle2
     obtain ⟨l3, d3, sd3, its3, ss3⟩ := x
     have hxb3 : 1 + d3.length + bulks its3 ≤ bulks its2 := hxb3
     obtain ⟨D3, hD3⟩ : ∃ D, D = d3.map b8 := ⟨_, rfl⟩
     obtain ⟨I3, hI3⟩ : ∃ I, I = rowsOf its3 := ⟨_, rfl⟩
     have rx2 : I2[pi2.toNat]? = some [.c (.v (.bool l3)), .c (.sl D3 sd3), .c (.sl I3 ss3)] := by
      rw [hI2, hpi2, Int.toNat_natCast, rowsOf_get hx2, hD3, hI3]; rfl
     cases l3 with
     | false =>
      conv => cbv
      refine ⟨_, by omega, rx2, rfl, ?_⟩
      conv => cbv
      refine call_in har hΓ2 Tryd.func31 rfl fun Γ3 hΓ3 vs3 => ?_
      conv => cbv
      refine onT n2 ?_
      have hDl3 : ar.len D3 = (d3.length : Int) := by rw [lenIs har, hD3, List.length_map]
      have hDn3 : D3.length = d3.length := by rw [hD3, List.length_map]
      obtain ⟨H, hH⟩ : ∃ H, H = (hd 128 d3.length).map b8 := ⟨_, rfl⟩
      have hhl := hd_len (f := 128) (n := d3.length) (by omega)
      have hHn : H.length = (hd 128 d3.length).length := by rw [hH, List.length_map]
      have hDy : ∀ y ∈ D3, rlen y = 1 := by rw [hD3]; exact b8_all _
      have hHy : ∀ y ∈ H, rlen y = 1 := by rw [hH]; exact b8_all _
      have s1 : (Z2.length + H.length) * 1 ≤ 140737488355328 ∧ ∀ y ∈ H, rlen y = 1 := ⟨by omega, hHy⟩
      have s2 : ((ar.app Z2 H).length + D3.length) * 1 ≤ 140737488355328 ∧ ∀ y ∈ D3, rlen y = 1 := ⟨by rw [appIs har, List.length_append]; (try simp only [List.length_nil]); omega, hDy⟩
      have s3 : (Z2.length + D3.length) * 1 ≤ 140737488355328 ∧ ∀ y ∈ D3, rlen y = 1 := ⟨by omega, hDy⟩
      have hEq1 : (d3.length ≠ 1 ∨ 128 ≤ d3.getD 0 0) → ar.app (ar.app Z2 H) D3 = (encs (its2.take (p2 + 1))).map b8 := fun hc => by
       rw [appIs har, appIs har, hZ2, hdt2, enc, hH, hD3, encT, if_pos hc]; simp only [List.map_append, List.nil_append, List.append_assoc]
      have hEq2 : ¬ (d3.length ≠ 1 ∨ 128 ≤ d3.getD 0 0) → ar.app Z2 D3 = (encs (its2.take (p2 + 1))).map b8 := fun hc => by
       rw [appIs har, hZ2, hdt2, enc, hD3, encT, if_neg hc]; simp only [List.map_append, List.nil_append]
      have callH : ∀ (Γ : Ctx) (d' : Nat) (k : List PR → Prop) (R : Prop), Γ = ctx Tryd.prog d' → k [.s (.sl H [])] → Γ.g 51 [.s (.v (.int .u8 128)), .s (.v (.int .i64 (ar.len D3)))] k ∨ R := fun Γ d' k R hΓ hk => call_by hΓ head_sound ⟨128, d3.length, by rw [hDl3], by omega, by omega, by omega, by rw [← hH]; exact hk⟩
      conv => cbv
      refine ⟨fun h => ?_, fun h => ?_⟩
      ·have g := cNne har (a := ar.len D3) (b := 1) h
       obtain ⟨b, hdb⟩ : ∃ b, d3 = [b] := by
        match d3, (show d3.length = 1 by omega) with
        | [b], _ => exact ⟨b, rfl⟩
       have hDb : D3 = [[.c (.v (.int .u8 b))]] := by rw [hD3, hdb]; rfl
       have hD0 : D3[(0 : Int).toNat]? = some [.c (.v (.int .u8 b))] := by rw [hDb]; rfl
       conv => cbv
       refine ⟨_, by omega, hD0, rfl, ?_⟩
       conv => cbv
       refine ⟨fun h => ?_, fun h => ?_⟩
       ·have g2 := cGe har (a := b) (b := 128) h
        conv => cbv
        refine callH _ _ _ _ hΓ3 ?_
        conv => cbv
        refine ⟨fun _ => s1, ?_⟩
        conv => cbv
        refine ⟨fun _ => s2, ?_⟩
        refine ⟨⟨(p2 + 1, ar.ib .add .i64 pi2 1, ar.app (ar.app Z2 H) D3), hlt2, iSucc har hpi2 (by omega), hEq1 (by right; rw [hdb]; exact g2)⟩, ?_, ?_⟩
        ·dsimp only
         conv => cbv
         simp
        ·show its2.length - (p2 + 1) < its2.length - p2
         omega
       ·have g2 := cNge har (a := b) (b := 128) h
        conv => cbv
        refine ⟨fun _ => s3, ?_⟩
        refine ⟨⟨(p2 + 1, ar.ib .add .i64 pi2 1, ar.app Z2 D3), hlt2, iSucc har hpi2 (by omega), hEq2 (by rw [hdb]; simp; omega)⟩, ?_, ?_⟩
        ·dsimp only
         conv => cbv
         simp
        ·show its2.length - (p2 + 1) < its2.length - p2
         omega
      ·have g := cNe har (a := ar.len D3) (b := 1) h
       conv => cbv
       refine callH _ _ _ _ hΓ3 ?_
       conv => cbv
       refine ⟨fun _ => s1, ?_⟩
       conv => cbv
       refine ⟨fun _ => s2, ?_⟩
       refine ⟨⟨(p2 + 1, ar.ib .add .i64 pi2 1, ar.app (ar.app Z2 H) D3), hlt2, iSucc har hpi2 (by omega), hEq1 (by left; omega)⟩, ?_, ?_⟩
       ·dsimp only
        conv => cbv
        simp
       ·show its2.length - (p2 + 1) < its2.length - p2
        omega
     | true =>
      have hxd3 : depths its3 + 1 ≤ depths its2 := hxd3
      conv => cbv
      refine ⟨_, by omega, rx2, rfl, ?_⟩
      conv => cbv
      refine call_in har hΓ2 Tryd.func31 rfl fun Γ3 hΓ3 vs3 => ?_
      conv => cbv
      refine onF n1 ?_
      have hIl3 : ar.len I3 = (its3.length : Int) := by rw [lenIs har, hI3, rowsOf_length]
      have hil3 := bulks_len its3
      have hel3 := encs_len its3
      conv => cbv
      refine .inr ⟨{ q : Nat × Int × List (List PS) // q.1 ≤ its3.length ∧ q.2.1 = q.1 ∧ q.2.2 = (encs (its3.take q.1)).map b8 },
       fun q => ⟨mk 50 [(0, .s (.own 7)), (4, .s .nil), (5, .s (.own 11)), (33, .s (.p (.sl I3 ss3))), (34, pint (ar.len I3)), (35, pint q.1.2.1)], [.gone, .hid (mk 12 [(2, .s .nil), (3, .s (.lit .i64 0))]) vs1, .gone, .arr Z1 5 1 1 true, .gone, .hid (mk 50 [(0, .s .nil), (4, .s .nil), (33, .s (.p (.sl I1 ss1))), (34, pint (ar.len I1)), (35, pint pi1)]) vs2, .gone, .arr Z2 5 1 1 true, .gone, .hid (mk 50 [(0, .s (.own 3)), (4, .s .nil), (33, .s (.p (.sl I2 ss2))), (34, pint (ar.len I2)), (35, pint pi2)]) vs3, .gone, .arr q.1.2.2 5 1 1 true]⟩,
       fun q => its3.length - q.1.1, [.slot 5 5], _, ⟨(0, 0, []), Nat.zero_le _, rfl, rfl⟩, rfl, ?_, ?_⟩
      ·conv => cbv
       simp
      rintro ⟨⟨p3, pi3, Z3⟩, hq⟩
      have hp3 : p3 ≤ its3.length := hq.1
      have hpi3 : pi3 = (p3 : Int) := hq.2.1
      have hZ3 : Z3 = (encs (its3.take p3)).map b8 := hq.2.2
      have hZn3 : Z3.length = (encs (its3.take p3)).length := by rw [hZ3, List.length_map]
      have hZle3 := encs_le its3 p3
      dsimp only
      conv => cbv
      refine ⟨fun h => ?_, fun h => ?_⟩
      ·have g' := cLt har (b := ar.len I3) h
       have hlt3 : p3 < its3.length := by omega
       obtain ⟨x, hx3⟩ : ∃ t, its3[p3]? = some t := ⟨_, List.getElem?_eq_getElem hlt3⟩
       have hxb4 := bulk_get hx3
       have hxd4 := dep_get hx3
       have hdt3 := encs_take hx3
       have hdle3 := encs_le its3 (p3 + 1)
       rw [hdt3, List.length_append] at hdle3
       obtain ⟨l4, d4, sd4, its4, ss4⟩ := x
       have hxb4 : 1 + d4.length + bulks its4 ≤ bulks its3 := hxb4
       obtain ⟨D4, hD4⟩ : ∃ D, D = d4.map b8 := ⟨_, rfl⟩
       obtain ⟨I4, hI4⟩ : ∃ I, I = rowsOf its4 := ⟨_, rfl⟩
       have rx3 : I3[pi3.toNat]? = some [.c (.v (.bool l4)), .c (.sl D4 sd4), .c (.sl I4 ss4)] := by
        rw [hI3, hpi3, Int.toNat_natCast, rowsOf_get hx3, hD4, hI4]; rfl
       cases l4 with
       | false =>
        conv => cbv
        refine ⟨_, by omega, rx3, rfl, ?_⟩
        conv => cbv
        refine call_in har hΓ3 Tryd.func31 rfl fun Γ4 hΓ4 vs4 => ?_
        conv => cbv
        refine onT n2 ?_
        have hDl4 : ar.len D4 = (d4.length : Int) := by rw [lenIs har, hD4, List.length_map]
        have hDn4 : D4.length = d4.length := by rw [hD4, List.length_map]
        obtain ⟨H, hH⟩ : ∃ H, H = (hd 128 d4.length).map b8 := ⟨_, rfl⟩
        have hhl := hd_len (f := 128) (n := d4.length) (by omega)
        have hHn : H.length = (hd 128 d4.length).length := by rw [hH, List.length_map]
        have hDy : ∀ y ∈ D4, rlen y = 1 := by rw [hD4]; exact b8_all _
        have hHy : ∀ y ∈ H, rlen y = 1 := by rw [hH]; exact b8_all _
        have s1 : (Z3.length + H.length) * 1 ≤ 140737488355328 ∧ ∀ y ∈ H, rlen y = 1 := ⟨by omega, hHy⟩
        have s2 : ((ar.app Z3 H).length + D4.length) * 1 ≤ 140737488355328 ∧ ∀ y ∈ D4, rlen y = 1 := ⟨by rw [appIs har, List.length_append]; (try simp only [List.length_nil]); omega, hDy⟩
        have s3 : (Z3.length + D4.length) * 1 ≤ 140737488355328 ∧ ∀ y ∈ D4, rlen y = 1 := ⟨by omega, hDy⟩
        have hEq1 : (d4.length ≠ 1 ∨ 128 ≤ d4.getD 0 0) → ar.app (ar.app Z3 H) D4 = (encs (its3.take (p3 + 1))).map b8 := fun hc => by
         rw [appIs har, appIs har, hZ3, hdt3, enc, hH, hD4, encT, if_pos hc]; simp only [List.map_append, List.nil_append, List.append_assoc]
        have hEq2 : ¬ (d4.length ≠ 1 ∨ 128 ≤ d4.getD 0 0) → ar.app Z3 D4 = (encs (its3.take (p3 + 1))).map b8 := fun hc => by
         rw [appIs har, hZ3, hdt3, enc, hD4, encT, if_neg hc]; simp only [List.map_append, List.nil_append]
        have callH : ∀ (Γ : Ctx) (d' : Nat) (k : List PR → Prop) (R : Prop), Γ = ctx Tryd.prog d' → k [.s (.sl H [])] → Γ.g 51 [.s (.v (.int .u8 128)), .s (.v (.int .i64 (ar.len D4)))] k ∨ R := fun Γ d' k R hΓ hk => call_by hΓ head_sound ⟨128, d4.length, by rw [hDl4], by omega, by omega, by omega, by rw [← hH]; exact hk⟩
        conv => cbv
        refine ⟨fun h => ?_, fun h => ?_⟩
        ·have g := cNne har (a := ar.len D4) (b := 1) h
         obtain ⟨b, hdb⟩ : ∃ b, d4 = [b] := by
          match d4, (show d4.length = 1 by omega) with
          | [b], _ => exact ⟨b, rfl⟩
         have hDb : D4 = [[.c (.v (.int .u8 b))]] := by rw [hD4, hdb]; rfl
         have hD0 : D4[(0 : Int).toNat]? = some [.c (.v (.int .u8 b))] := by rw [hDb]; rfl
         conv => cbv
         refine ⟨_, by omega, hD0, rfl, ?_⟩
         conv => cbv
         refine ⟨fun h => ?_, fun h => ?_⟩
         ·have g2 := cGe har (a := b) (b := 128) h
          conv => cbv
          refine callH _ _ _ _ hΓ4 ?_
          conv => cbv
          refine ⟨fun _ => s1, ?_⟩
          conv => cbv
          refine ⟨fun _ => s2, ?_⟩
          refine ⟨⟨(p3 + 1, ar.ib .add .i64 pi3 1, ar.app (ar.app Z3 H) D4), hlt3, iSucc har hpi3 (by omega), hEq1 (by right; rw [hdb]; exact g2)⟩, ?_, ?_⟩
          ·dsimp only
           conv => cbv
           simp
          ·show its3.length - (p3 + 1) < its3.length - p3
           omega
         ·have g2 := cNge har (a := b) (b := 128) h
          conv => cbv
          refine ⟨fun _ => s3, ?_⟩
          refine ⟨⟨(p3 + 1, ar.ib .add .i64 pi3 1, ar.app Z3 D4), hlt3, iSucc har hpi3 (by omega), hEq2 (by rw [hdb]; simp; omega)⟩, ?_, ?_⟩
          ·dsimp only
           conv => cbv
           simp
          ·show its3.length - (p3 + 1) < its3.length - p3
           omega
        ·have g := cNe har (a := ar.len D4) (b := 1) h
         conv => cbv
         refine callH _ _ _ _ hΓ4 ?_
         conv => cbv
         refine ⟨fun _ => s1, ?_⟩
         conv => cbv
         refine ⟨fun _ => s2, ?_⟩
         refine ⟨⟨(p3 + 1, ar.ib .add .i64 pi3 1, ar.app (ar.app Z3 H) D4), hlt3, iSucc har hpi3 (by omega), hEq1 (by left; omega)⟩, ?_, ?_⟩
         ·dsimp only
          conv => cbv
          simp
         ·show its3.length - (p3 + 1) < its3.length - p3
          omega
       | true =>
        have hxd4 : depths its4 + 1 ≤ depths its3 := hxd4
        conv => cbv
        refine ⟨_, by omega, rx3, rfl, ?_⟩
        conv => cbv
        refine call_in har hΓ3 Tryd.func31 rfl fun Γ4 hΓ4 vs4 => ?_
        conv => cbv
        refine onF n1 ?_
        have hIl4 : ar.len I4 = (its4.length : Int) := by rw [lenIs har, hI4, rowsOf_length]
        have hil4 := bulks_len its4
        have hel4 := encs_len its4
        conv => cbv
        refine .inr ⟨{ q : Nat × Int × List (List PS) // q.1 ≤ its4.length ∧ q.2.1 = q.1 ∧ q.2.2 = (encs (its4.take q.1)).map b8 },
         fun q => ⟨mk 50 [(0, .s (.own 11)), (4, .s .nil), (5, .s (.own 15)), (33, .s (.p (.sl I4 ss4))), (34, pint (ar.len I4)), (35, pint q.1.2.1)], [.gone, .hid (mk 12 [(2, .s .nil), (3, .s (.lit .i64 0))]) vs1, .gone, .arr Z1 5 1 1 true, .gone, .hid (mk 50 [(0, .s .nil), (4, .s .nil), (33, .s (.p (.sl I1 ss1))), (34, pint (ar.len I1)), (35, pint pi1)]) vs2, .gone, .arr Z2 5 1 1 true, .gone, .hid (mk 50 [(0, .s (.own 3)), (4, .s .nil), (33, .s (.p (.sl I2 ss2))), (34, pint (ar.len I2)), (35, pint pi2)]) vs3, .gone, .arr Z3 5 1 1 true, .gone, .hid (mk 50 [(0, .s (.own 7)), (4, .s .nil), (33, .s (.p (.sl I3 ss3))), (34, pint (ar.len I3)), (35, pint pi3)]) vs4, .gone, .arr q.1.2.2 5 1 1 true]⟩,
         fun q => its4.length - q.1.1, [.slot 5 5], _, ⟨(0, 0, []), Nat.zero_le _, rfl, rfl⟩, rfl, ?_, ?_⟩
        ·conv => cbv
         simp
        rintro ⟨⟨p4, pi4, Z4⟩, hq⟩
        have hp4 : p4 ≤ its4.length := hq.1
        have hpi4 : pi4 = (p4 : Int) := hq.2.1
        have hZ4 : Z4 = (encs (its4.take p4)).map b8 := hq.2.2
        have hZn4 : Z4.length = (encs (its4.take p4)).length := by rw [hZ4, List.length_map]
        have hZle4 := encs_le its4 p4
        dsimp only
        conv => cbv
        refine ⟨fun h => ?_, fun h => ?_⟩
        ·have g' := cLt har (b := ar.len I4) h
         have hlt4 : p4 < its4.length := by omega
         obtain ⟨x, hx4⟩ : ∃ t, its4[p4]? = some t := ⟨_, List.getElem?_eq_getElem hlt4⟩
         have hxb5 := bulk_get hx4
         have hxd5 := dep_get hx4
         have hdt4 := encs_take hx4
         have hdle4 := encs_le its4 (p4 + 1)
         rw [hdt4, List.length_append] at hdle4
         obtain ⟨l5, d5, sd5, its5, ss5⟩ := x
         have hxb5 : 1 + d5.length + bulks its5 ≤ bulks its4 := hxb5
         obtain ⟨D5, hD5⟩ : ∃ D, D = d5.map b8 := ⟨_, rfl⟩
         obtain ⟨I5, hI5⟩ : ∃ I, I = rowsOf its5 := ⟨_, rfl⟩
         have rx4 : I4[pi4.toNat]? = some [.c (.v (.bool l5)), .c (.sl D5 sd5), .c (.sl I5 ss5)] := by
          rw [hI4, hpi4, Int.toNat_natCast, rowsOf_get hx4, hD5, hI5]; rfl
         cases l5 with
         | false =>
          conv => cbv
          refine ⟨_, by omega, rx4, rfl, ?_⟩
          conv => cbv
          refine call_in har hΓ4 Tryd.func31 rfl fun Γ5 hΓ5 vs5 => ?_
          conv => cbv
          refine onT n2 ?_
          have hDl5 : ar.len D5 = (d5.length : Int) := by rw [lenIs har, hD5, List.length_map]
          have hDn5 : D5.length = d5.length := by rw [hD5, List.length_map]
          obtain ⟨H, hH⟩ : ∃ H, H = (hd 128 d5.length).map b8 := ⟨_, rfl⟩
          have hhl := hd_len (f := 128) (n := d5.length) (by omega)
          have hHn : H.length = (hd 128 d5.length).length := by rw [hH, List.length_map]
          have hDy : ∀ y ∈ D5, rlen y = 1 := by rw [hD5]; exact b8_all _
          have hHy : ∀ y ∈ H, rlen y = 1 := by rw [hH]; exact b8_all _
          have s1 : (Z4.length + H.length) * 1 ≤ 140737488355328 ∧ ∀ y ∈ H, rlen y = 1 := ⟨by omega, hHy⟩
          have s2 : ((ar.app Z4 H).length + D5.length) * 1 ≤ 140737488355328 ∧ ∀ y ∈ D5, rlen y = 1 := ⟨by rw [appIs har, List.length_append]; (try simp only [List.length_nil]); omega, hDy⟩
          have s3 : (Z4.length + D5.length) * 1 ≤ 140737488355328 ∧ ∀ y ∈ D5, rlen y = 1 := ⟨by omega, hDy⟩
          have hEq1 : (d5.length ≠ 1 ∨ 128 ≤ d5.getD 0 0) → ar.app (ar.app Z4 H) D5 = (encs (its4.take (p4 + 1))).map b8 := fun hc => by
           rw [appIs har, appIs har, hZ4, hdt4, enc, hH, hD5, encT, if_pos hc]; simp only [List.map_append, List.nil_append, List.append_assoc]
          have hEq2 : ¬ (d5.length ≠ 1 ∨ 128 ≤ d5.getD 0 0) → ar.app Z4 D5 = (encs (its4.take (p4 + 1))).map b8 := fun hc => by
           rw [appIs har, hZ4, hdt4, enc, hD5, encT, if_neg hc]; simp only [List.map_append, List.nil_append]
          have callH : ∀ (Γ : Ctx) (d' : Nat) (k : List PR → Prop) (R : Prop), Γ = ctx Tryd.prog d' → k [.s (.sl H [])] → Γ.g 51 [.s (.v (.int .u8 128)), .s (.v (.int .i64 (ar.len D5)))] k ∨ R := fun Γ d' k R hΓ hk => call_by hΓ head_sound ⟨128, d5.length, by rw [hDl5], by omega, by omega, by omega, by rw [← hH]; exact hk⟩
          conv => cbv
          refine ⟨fun h => ?_, fun h => ?_⟩
          ·have g := cNne har (a := ar.len D5) (b := 1) h
           obtain ⟨b, hdb⟩ : ∃ b, d5 = [b] := by
            match d5, (show d5.length = 1 by omega) with
            | [b], _ => exact ⟨b, rfl⟩
           have hDb : D5 = [[.c (.v (.int .u8 b))]] := by rw [hD5, hdb]; rfl
           have hD0 : D5[(0 : Int).toNat]? = some [.c (.v (.int .u8 b))] := by rw [hDb]; rfl
           conv => cbv
           refine ⟨_, by omega, hD0, rfl, ?_⟩
           conv => cbv
           refine ⟨fun h => ?_, fun h => ?_⟩
           ·have g2 := cGe har (a := b) (b := 128) h
            conv => cbv
            refine callH _ _ _ _ hΓ5 ?_
            conv => cbv
            refine ⟨fun _ => s1, ?_⟩
            conv => cbv
            refine ⟨fun _ => s2, ?_⟩
            refine ⟨⟨(p4 + 1, ar.ib .add .i64 pi4 1, ar.app (ar.app Z4 H) D5), hlt4, iSucc har hpi4 (by omega), hEq1 (by right; rw [hdb]; exact g2)⟩, ?_, ?_⟩
            ·dsimp only
             conv => cbv
             simp
            ·show its4.length - (p4 + 1) < its4.length - p4
             omega
           ·have g2 := cNge har (a := b) (b := 128) h
            conv => cbv
            refine ⟨fun _ => s3, ?_⟩
            refine ⟨⟨(p4 + 1, ar.ib .add .i64 pi4 1, ar.app Z4 D5), hlt4, iSucc har hpi4 (by omega), hEq2 (by rw [hdb]; simp; omega)⟩, ?_, ?_⟩
            ·dsimp only
             conv => cbv
             simp
            ·show its4.length - (p4 + 1) < its4.length - p4
             omega
          ·have g := cNe har (a := ar.len D5) (b := 1) h
           conv => cbv
           refine callH _ _ _ _ hΓ5 ?_
           conv => cbv
           refine ⟨fun _ => s1, ?_⟩
           conv => cbv
           refine ⟨fun _ => s2, ?_⟩
           refine ⟨⟨(p4 + 1, ar.ib .add .i64 pi4 1, ar.app (ar.app Z4 H) D5), hlt4, iSucc har hpi4 (by omega), hEq1 (by left; omega)⟩, ?_, ?_⟩
           ·dsimp only
            conv => cbv
            simp
           ·show its4.length - (p4 + 1) < its4.length - p4
            omega
         | true =>
          have := depth_pos hxd5 (by omega)
          cases this
        have g' := cNlt har (b := ar.len I4) h
        have hpe4 : p4 = its4.length := by omega
        rw [hpe4, List.take_length] at hZ4 hZn4
        obtain ⟨H, hH⟩ : ∃ H, H = (hd 192 (encs its4).length).map b8 := ⟨_, rfl⟩
        have hhl := hd_len (f := 192) (n := (encs its4).length) (by omega)
        have hHn : H.length = (hd 192 (encs its4).length).length := by rw [hH, List.length_map]
        have hZl : ar.len Z4 = ((encs its4).length : Int) := by rw [lenIs har, hZn4]
        have hZy : ∀ y ∈ Z4, rlen y = 1 := by rw [hZ4]; exact b8_all _
        have hHy : ∀ y ∈ H, rlen y = 1 := by rw [hH]; exact b8_all _
        have s1 : (Z3.length + H.length) * 1 ≤ 140737488355328 ∧ ∀ y ∈ H, rlen y = 1 := ⟨by omega, hHy⟩
        have s2 : ((ar.app Z3 H).length + Z4.length) * 1 ≤ 140737488355328 ∧ ∀ y ∈ Z4, rlen y = 1 := ⟨by rw [appIs har, List.length_append]; (try simp only [List.length_nil]); omega, hZy⟩
        have hres : ar.app (ar.app Z3 H) Z4 = (encs (its3.take (p3 + 1))).map b8 := by
         rw [appIs har, appIs har, hZ3, hdt3, enc, hZ4, hH]; simp only [List.map_append, List.nil_append, List.append_assoc]
        have callH : ∀ (Γ : Ctx) (d' : Nat) (k : List PR → Prop) (R : Prop), Γ = ctx Tryd.prog d' → k [.s (.sl H [])] → Γ.g 51 [.s (.v (.int .u8 192)), .s (.v (.int .i64 (ar.len Z4)))] k ∨ R := fun Γ d' k R hΓ hk => call_by hΓ head_sound ⟨192, (encs its4).length, by rw [hZl], by omega, by omega, by omega, by rw [← hH]; exact hk⟩
        conv => cbv
        refine callH _ _ _ _ hΓ4 ?_
        conv => cbv
        refine ⟨fun _ => s1, ?_⟩
        conv => cbv
        refine ⟨fun _ => s2, ?_⟩
        refine ⟨⟨(p3 + 1, ar.ib .add .i64 pi3 1, ar.app (ar.app Z3 H) Z4), hlt3, iSucc har hpi3 (by omega), hres⟩, ?_, ?_⟩
        ·dsimp only
         conv => cbv
         simp
        ·show its3.length - (p3 + 1) < its3.length - p3
         omega
      have g' := cNlt har (b := ar.len I3) h
      have hpe3 : p3 = its3.length := by omega
      rw [hpe3, List.take_length] at hZ3 hZn3
      obtain ⟨H, hH⟩ : ∃ H, H = (hd 192 (encs its3).length).map b8 := ⟨_, rfl⟩
      have hhl := hd_len (f := 192) (n := (encs its3).length) (by omega)
      have hHn : H.length = (hd 192 (encs its3).length).length := by rw [hH, List.length_map]
      have hZl : ar.len Z3 = ((encs its3).length : Int) := by rw [lenIs har, hZn3]
      have hZy : ∀ y ∈ Z3, rlen y = 1 := by rw [hZ3]; exact b8_all _
      have hHy : ∀ y ∈ H, rlen y = 1 := by rw [hH]; exact b8_all _
      have s1 : (Z2.length + H.length) * 1 ≤ 140737488355328 ∧ ∀ y ∈ H, rlen y = 1 := ⟨by omega, hHy⟩
      have s2 : ((ar.app Z2 H).length + Z3.length) * 1 ≤ 140737488355328 ∧ ∀ y ∈ Z3, rlen y = 1 := ⟨by rw [appIs har, List.length_append]; (try simp only [List.length_nil]); omega, hZy⟩
      have hres : ar.app (ar.app Z2 H) Z3 = (encs (its2.take (p2 + 1))).map b8 := by
       rw [appIs har, appIs har, hZ2, hdt2, enc, hZ3, hH]; simp only [List.map_append, List.nil_append, List.append_assoc]
      have callH : ∀ (Γ : Ctx) (d' : Nat) (k : List PR → Prop) (R : Prop), Γ = ctx Tryd.prog d' → k [.s (.sl H [])] → Γ.g 51 [.s (.v (.int .u8 192)), .s (.v (.int .i64 (ar.len Z3)))] k ∨ R := fun Γ d' k R hΓ hk => call_by hΓ head_sound ⟨192, (encs its3).length, by rw [hZl], by omega, by omega, by omega, by rw [← hH]; exact hk⟩
      conv => cbv
      refine callH _ _ _ _ hΓ3 ?_
      conv => cbv
      refine ⟨fun _ => s1, ?_⟩
      conv => cbv
      refine ⟨fun _ => s2, ?_⟩
      refine ⟨⟨(p2 + 1, ar.ib .add .i64 pi2 1, ar.app (ar.app Z2 H) Z3), hlt2, iSucc har hpi2 (by omega), hres⟩, ?_, ?_⟩
      ·dsimp only
       conv => cbv
       simp
      ·show its2.length - (p2 + 1) < its2.length - p2
       omega
    have g' := cNlt har (b := ar.len I2) h
    have hpe2 : p2 = its2.length := by omega
    rw [hpe2, List.take_length] at hZ2 hZn2
    obtain ⟨H, hH⟩ : ∃ H, H = (hd 192 (encs its2).length).map b8 := ⟨_, rfl⟩
    have hhl := hd_len (f := 192) (n := (encs its2).length) (by omega)
    have hHn : H.length = (hd 192 (encs its2).length).length := by rw [hH, List.length_map]
    have hZl : ar.len Z2 = ((encs its2).length : Int) := by rw [lenIs har, hZn2]
    have hZy : ∀ y ∈ Z2, rlen y = 1 := by rw [hZ2]; exact b8_all _
    have hHy : ∀ y ∈ H, rlen y = 1 := by rw [hH]; exact b8_all _
    have s1 : (Z1.length + H.length) * 1 ≤ 140737488355328 ∧ ∀ y ∈ H, rlen y = 1 := ⟨by omega, hHy⟩
    have s2 : ((ar.app Z1 H).length + Z2.length) * 1 ≤ 140737488355328 ∧ ∀ y ∈ Z2, rlen y = 1 := ⟨by rw [appIs har, List.length_append]; (try simp only [List.length_nil]); omega, hZy⟩
    have hres : ar.app (ar.app Z1 H) Z2 = (encs (its1.take (p1 + 1))).map b8 := by
     rw [appIs har, appIs har, hZ1, hdt1, enc, hZ2, hH]; simp only [List.map_append, List.nil_append, List.append_assoc]
    have callH : ∀ (Γ : Ctx) (d' : Nat) (k : List PR → Prop) (R : Prop), Γ = ctx Tryd.prog d' → k [.s (.sl H [])] → Γ.g 51 [.s (.v (.int .u8 192)), .s (.v (.int .i64 (ar.len Z2)))] k ∨ R := fun Γ d' k R hΓ hk => call_by hΓ head_sound ⟨192, (encs its2).length, by rw [hZl], by omega, by omega, by omega, by rw [← hH]; exact hk⟩
    conv => cbv
    refine callH _ _ _ _ hΓ2 ?_
    conv => cbv
    refine ⟨fun _ => s1, ?_⟩
    conv => cbv
    refine ⟨fun _ => s2, ?_⟩
    refine ⟨⟨(p1 + 1, ar.ib .add .i64 pi1 1, ar.app (ar.app Z1 H) Z2), hlt1, iSucc har hpi1 (by omega), hres⟩, ?_, ?_⟩
    ·dsimp only
     conv => cbv
     simp
    ·show its1.length - (p1 + 1) < its1.length - p1
     omega
  have g' := cNlt har (b := ar.len I1) h
  have hpe1 : p1 = its1.length := by omega
  rw [hpe1, List.take_length] at hZ1 hZn1
  obtain ⟨H, hH⟩ : ∃ H, H = (hd 192 (encs its1).length).map b8 := ⟨_, rfl⟩
  have hhl := hd_len (f := 192) (n := (encs its1).length) (by omega)
  have hHn : H.length = (hd 192 (encs its1).length).length := by rw [hH, List.length_map]
  have hZl : ar.len Z1 = ((encs its1).length : Int) := by rw [lenIs har, hZn1]
  have hZy : ∀ y ∈ Z1, rlen y = 1 := by rw [hZ1]; exact b8_all _
  have hHy : ∀ y ∈ H, rlen y = 1 := by rw [hH]; exact b8_all _
  have s1 : (0 + H.length) * 1 ≤ 140737488355328 ∧ ∀ y ∈ H, rlen y = 1 := ⟨by omega, hHy⟩
  have s2 : ((ar.app [] H).length + Z1.length) * 1 ≤ 140737488355328 ∧ ∀ y ∈ Z1, rlen y = 1 := ⟨by rw [appIs har, List.length_append]; (try simp only [List.length_nil]); omega, hZy⟩
  have hres : ar.app (ar.app [] H) Z1 = (enc (It.mk true d1 sd1 its1 ss1)).map b8 := by
   rw [appIs har, appIs har, enc, hZ1, hH]; simp only [List.map_append, List.nil_append, List.append_assoc]
  have callH : ∀ (Γ : Ctx) (d' : Nat) (k : List PR → Prop) (R : Prop), Γ = ctx Tryd.prog d' → k [.s (.sl H [])] → Γ.g 51 [.s (.v (.int .u8 192)), .s (.v (.int .i64 (ar.len Z1)))] k ∨ R := fun Γ d' k R hΓ hk => call_by hΓ head_sound ⟨192, (encs its1).length, by rw [hZl], by omega, by omega, by omega, by rw [← hH]; exact hk⟩
  conv => cbv
  refine callH _ _ _ _ hΓ1 ?_
  conv => cbv
  refine ⟨fun _ => s1, ?_⟩
  conv => cbv
  refine ⟨fun _ => s2, ?_⟩
  have hk : k [.s (.sl (ar.app (ar.app [] H) Z1) []), .s (.v (.int .i64 0))] := by rw [hres]; exact hk
  conv => cbv
  exact hk
end Go.Eng
namespace Go.Eng
open Go Go.Proofs
set_option maxRecDepth 100000
set_option maxHeartbeats 8000000
set_option linter.unusedVariables false
def preB (ty : Int) : List Int := if ty = 0 then [] else [ty]
def encR (t : Tx) : List Int × Int :=
 if draftE t ≠ 0 then ([], draftE t) else if signB t = false then ([], 154) else if (itsR t (txFs t.ty)).2 ≠ 0 then ([], (itsR t (txFs t.ty)).2)
 else if 16777216 < (preB t.ty).length + (enc (It.lst (itsR t (txFs t.ty)).1)).length then ([], 2) else (preB t.ty ++ enc (It.lst (itsR t (txFs t.ty)).1), 0)
theorem draft_ty {t : Tx} (h : draftE t = 0) : 0 ≤ t.ty ∧ t.ty < 5 := by
 unfold draftE at h
 split at h
 ·cases h
 ·omega
theorem txFs_len (y : Int) : (txFs y).length ≤ 14 := by unfold txFs; (repeat' split) <;> decide
theorem itsR_ok {t : Tx} {fs : List Int} (h : (itsR t fs).2 = 0) : (itsR t fs).1 = itsL t fs ∧ errOf (It.lst (itsL t fs)) = 0 ∧ ∀ f ∈ fs, (itemP t f).2 = 0 := by
 unfold itsR at h ⊢
 split
 ·rename_i f hf
  rw [hf] at h
  have := List.find?_some hf
  simp only at h
  simp [h] at this
 ·rename_i hf
  rw [hf] at h
  simp only at h
  split at h
  ·rename_i he
   simp only [he, if_true]
   exact ⟨trivial, trivial, fun f hm => by have := List.find?_eq_none.1 hf f hm; simpa using this⟩
  ·rename_i he
   exact absurd (Int.ofNat.inj h) he
theorem encode15_sound : Sound Tryd.prog 6 fun args k => ∃ (t : Tx), args = [.a t.row] ∧ t.ok ∧ t.fit ∧ k [.s (.sl ((encR t).1.map b8) []), .s (.v (.int .i64 (encR t).2))] := by
 refine Sound.of_body tt_ok ent_ok Tryd.func6 rfl ?_
 rintro ar har Γ hΓ args k ⟨⟨tty, tch, tno, tpr, tti, tca, tga, tcr, tto, tva, td, tsd, tac, tsac, tbc, tbl, tsbl, tau, tsau, tv, tr, ts⟩, hargs, hto, hft, hk⟩
 obtain ⟨t, ht⟩ : ∃ t, t = Tx.mk tty tch tno tpr tti tca tga tcr tto tva td tsd tac tsac tbc tbl tsbl tau tsau tv tr ts := ⟨_, rfl⟩
 obtain ⟨tWpr, thWpr⟩ : ∃ x, x = w4 tpr := ⟨_, rfl⟩
 obtain ⟨tWti, thWti⟩ : ∃ x, x = w4 tti := ⟨_, rfl⟩
 obtain ⟨tWca, thWca⟩ : ∃ x, x = w4 tca := ⟨_, rfl⟩
 obtain ⟨tWva, thWva⟩ : ∃ x, x = w4 tva := ⟨_, rfl⟩
 obtain ⟨tWbc, thWbc⟩ : ∃ x, x = w4 tbc := ⟨_, rfl⟩
 obtain ⟨tWv, thWv⟩ : ∃ x, x = w4 tv := ⟨_, rfl⟩
 obtain ⟨tWr, thWr⟩ : ∃ x, x = w4 tr := ⟨_, rfl⟩
 obtain ⟨tWs, thWs⟩ : ∃ x, x = w4 ts := ⟨_, rfl⟩
 obtain ⟨tWto, thWto⟩ : ∃ x, x = u8s tto := ⟨_, rfl⟩
 obtain ⟨tD, thD⟩ : ∃ x, x = td.map b8' := ⟨_, rfl⟩
 obtain ⟨tA, thA⟩ : ∃ x, x = tac.map Ent.row := ⟨_, rfl⟩
 obtain ⟨tB, thB⟩ : ∃ x, x = tbl.map key := ⟨_, rfl⟩
 obtain ⟨tU, thU⟩ : ∃ x, x = tau.map Au.row := ⟨_, rfl⟩
 obtain ⟨tIch, thIch⟩ : ∃ x : Int, x = (tch : Int) := ⟨_, rfl⟩
 obtain ⟨tIno, thIno⟩ : ∃ x : Int, x = (tno : Int) := ⟨_, rfl⟩
 obtain ⟨tIga, thIga⟩ : ∃ x : Int, x = (tga : Int) := ⟨_, rfl⟩
 have hrow : t.row = [.c (.v (.int .i64 tty)), .c (.v (.int .u64 tIch)), .c (.v (.int .u64 tIno)), .r 4 tWpr, .r 4 tWti, .r 4 tWca, .c (.v (.int .u64 tIga)), .c (.v (.bool tcr)), .r 20 tWto, .r 4 tWva, .c (.sl tD tsd), .c (.sl tA tsac), .r 4 tWbc, .c (.sl tB tsbl), .c (.sl tU tsau), .r 4 tWv, .r 4 tWr, .r 4 tWs] := by rw [ht]; exact (by rw [thWpr, thWti, thWca, thWva, thWbc, thWv, thWr, thWs, thWto, thD, thA, thB, thU, thIch, thIno, thIga]; rfl)
 rw [← ht] at hargs hto hft hk
 have hty : t.ty = tty := by rw [ht]
 obtain ⟨de, hde⟩ : ∃ x, x = draftE t := ⟨_, rfl⟩
 obtain ⟨sb, hsb⟩ : ∃ x, x = signB t := ⟨_, rfl⟩
 obtain ⟨F, hF⟩ : ∃ x, x = (txFs tty).map irow := ⟨_, rfl⟩
 obtain ⟨ie, hie⟩ : ∃ x, x = (itsR t (txFs tty)).2 := ⟨_, rfl⟩
 obtain ⟨its, hits⟩ : ∃ x, x = (itsR t (txFs tty)).1 := ⟨_, rfl⟩
 obtain ⟨I, hI⟩ : ∃ x, x = rowsOf its := ⟨_, rfl⟩
 obtain ⟨bd, hbd⟩ : ∃ x, x = enc (It.lst its) := ⟨_, rfl⟩
 obtain ⟨Y, hY⟩ : ∃ x, x = bd.map b8 := ⟨_, rfl⟩
 have hYl : ar.len Y = (bd.length : Int) := by rw [lenIs har, hY, List.length_map]
 have hYn : Y.length = bd.length := by rw [hY, List.length_map]
 have callD : ∀ (Γ : Ctx) (d' : Nat) (k : List PR → Prop) (R : Prop), Γ = ctx Tryd.prog d' → k [.s (.v (.int .i64 de))] → Γ.g 18 [.a [.c (.v (.int .i64 tty)), .c (.v (.int .u64 tIch)), .c (.v (.int .u64 tIno)), .r 4 tWpr, .r 4 tWti, .r 4 tWca, .c (.v (.int .u64 tIga)), .c (.v (.bool tcr)), .r 20 tWto, .r 4 tWva, .c (.sl tD tsd), .c (.sl tA tsac), .r 4 tWbc, .c (.sl tB tsbl), .c (.sl tU tsau), .r 4 tWv, .r 4 tWr, .r 4 tWs]] k ∨ R := fun Γ d' k R hΓ hk => call_by hΓ draft_sound ⟨t, by rw [hrow], hto, hft.small, by rw [← hde]; exact hk⟩
 have callS : ∀ (Γ : Ctx) (d' : Nat) (k : List PR → Prop) (R : Prop), Γ = ctx Tryd.prog d' → k [.s (.v (.bool sb))] → Γ.g 19 [.a [.c (.v (.int .i64 tty)), .c (.v (.int .u64 tIch)), .c (.v (.int .u64 tIno)), .r 4 tWpr, .r 4 tWti, .r 4 tWca, .c (.v (.int .u64 tIga)), .c (.v (.bool tcr)), .r 20 tWto, .r 4 tWva, .c (.sl tD tsd), .c (.sl tA tsac), .r 4 tWbc, .c (.sl tB tsbl), .c (.sl tU tsau), .r 4 tWv, .r 4 tWr, .r 4 tWs]] k ∨ R := fun Γ d' k R hΓ hk => call_by hΓ signable_sound ⟨t, by rw [hrow], hto, by rw [← hsb]; exact hk⟩
 have callR : ∀ (Γ : Ctx) (d' : Nat) (k : List PR → Prop), Γ = ctx Tryd.prog d' → k [.s (.sl F [])] → Γ.g 21 [.s (.v (.int .i64 tty))] k := fun Γ d' k hΓ hk => call_by' hΓ rowOf_sound ⟨tty, rfl, by rw [← hF]; exact hk⟩
 have callI : ∀ (Γ : Ctx) (d' : Nat) (k : List PR → Prop), Γ = ctx Tryd.prog d' → k [.s (.sl I []), .s (.v (.int .i64 ie))] → Γ.g 20 [.a [.c (.v (.int .i64 tty)), .c (.v (.int .u64 tIch)), .c (.v (.int .u64 tIno)), .r 4 tWpr, .r 4 tWti, .r 4 tWca, .c (.v (.int .u64 tIga)), .c (.v (.bool tcr)), .r 20 tWto, .r 4 tWva, .c (.sl tD tsd), .c (.sl tA tsac), .r 4 tWbc, .c (.sl tB tsbl), .c (.sl tU tsau), .r 4 tWv, .r 4 tWr, .r 4 tWs], .s (.sl F [])] k := fun Γ d' k hΓ hk => call_by' hΓ items_sound ⟨t, txFs tty, [], by rw [hrow, hF], hto, hft, by have := txFs_len tty; omega, by rw [← hits, ← hI, ← hie]; exact hk⟩
 have facts : ie = 0 → strips its = its ∧ bulks its ≤ 3758096398 ∧ depths its ≤ 3 ∧ errOf (It.lst its) = 0 := fun h => by
  obtain ⟨h1, h2, _⟩ := itsR_ok (hie ▸ h)
  rw [← hits] at h1
  obtain ⟨g1, g2, g3⟩ := itsL_facts hto hft (txFs tty)
  rw [← h1] at g1 g2 g3 h2
  have := txFs_len tty
  have g4 : (txFs tty).length * 268435457 ≤ 14 * 268435457 := Nat.mul_le_mul_right _ this
  exact ⟨g1, by omega, g3, h2⟩
 have callL : ∀ (Γ : Ctx) (d' : Nat) (k : List PR → Prop) (R : Prop), Γ = ctx Tryd.prog d' → ie = 0 → k [.a [.c (.v (.bool true)), .c (.sl [] []), .c (.sl I [])]] → Γ.g 14 [.s (.sl I [])] k ∨ R := fun Γ d' k R hΓ h0 hk => call_by hΓ list_sound ⟨its, [], by rw [hI], by have := (facts h0).2.1; omega, by rw [(facts h0).1]; rw [hI] at hk; exact hk⟩
 have callE : ∀ (Γ : Ctx) (d' : Nat) (k : List PR → Prop) (R : Prop), Γ = ctx Tryd.prog d' → ie = 0 → k [.s (.sl Y []), .s (.v (.int .i64 0))] → Γ.g 13 [.a [.c (.v (.bool true)), .c (.sl [] []), .c (.sl I [])]] k ∨ R := fun Γ d' k R hΓ h0 hk => call_by hΓ encodeT_sound ⟨It.lst its, by rw [hI]; rfl, by have := (facts h0).2.1; simp only [It.lst, It.bulk, List.length_nil]; omega, by have := (facts h0).2.2.1; show depths its + 1 ≤ 4; omega, by rw [(facts h0).2.2.2, if_pos rfl, ← hbd, ← hY]; exact hk⟩
 have hE : encR t = if de ≠ 0 then ([], de) else if sb = false then ([], 154) else if ie ≠ 0 then ([], ie) else if 16777216 < (preB tty).length + bd.length then ([], 2) else (preB tty ++ bd, 0) := by
  unfold encR; rw [← hde, ← hsb, hty, ← hie, ← hits, ← hbd]
 have hd5 : de = 0 → 0 ≤ tty ∧ tty < 5 := fun h => by rw [← hty]; exact draft_ty (hde ▸ h)
 rw [hE] at hk
 rw [hrow] at hargs
 clear ht hE hde hsb hits hie
 have n1 : ar.nb true = false := by rw [har]; rfl
 have n0 : ar.nb false = true := by rw [har]; rfl
 have f0 : ar.cb .neq 0 0 = false := dNne har rfl
 have hbl : (enc (It.lst its)).length = bd.length := by rw [hbd]
 have hbl2 : ie = 0 → bd.length ≤ 2 ^ 40 := fun h => by
  have h1 := (facts h).2.1
  have h2 := enc_len (It.lst its) (by simp only [It.lst, It.bulk, List.length_nil]; omega)
  simp only [It.lst, It.bulk, List.length_nil] at h2 hbl
  omega
 subst hargs
 conv => cbv
 refine callD _ _ _ _ hΓ ?_
 conv => cbv
 refine ⟨fun h => ?_, fun h => ?_⟩
 ·have g := cNe har (a := de) (b := 0) h
  rw [if_pos g] at hk
  conv => cbv
  exact hk
 have g := cNne har (a := de) (b := 0) h
 have hd5 := hd5 g
 rw [if_neg (by omega)] at hk
 conv => cbv
 refine callS _ _ _ _ hΓ ?_
 conv => cbv
 cases sb with
 | false =>
  rw [if_pos rfl] at hk
  refine onT n0 ?_
  conv => cbv
  exact hk
 | true =>
 rw [if_neg (by decide)] at hk
 refine onF n1 ?_
 conv => cbv
 refine ⟨by rw [har]; kernel_rfl, ?_⟩
 refine callR _ _ _ hΓ ?_
 conv => cbv
 refine callI _ _ _ hΓ ?_
 conv => cbv
 refine ⟨fun h => ?_, fun h => ?_⟩
 ·have g2 := cNe har (a := ie) (b := 0) h
  rw [if_pos g2] at hk
  conv => cbv
  exact hk
 have g2 := cNne har (a := ie) (b := 0) h
 have hbl2 := hbl2 g2
 rw [if_neg (by omega)] at hk
 conv => cbv
 refine ⟨fun h => ?_, fun h => ?_⟩
 ·have g3 := cNe har (a := tty) (b := 0) h
  have hp : preB tty = [tty] := by rw [preB, if_neg g3]
  rw [hp, List.length_singleton] at hk
  have hcv : ar.cv .u8 tty = tty := by rw [cvU8 har]; omega
  conv => cbv
  refine callL _ _ _ _ hΓ g2 ?_
  conv => cbv
  refine callE _ _ _ _ hΓ g2 ?_
  have hl1 : ar.ib .add .i64 (ar.len [[.c (.v (.int .u8 (ar.cv .u8 tty)))]]) (ar.len Y) = ((1 + bd.length : Nat) : Int) := by rw [lenIs har [[PS.c (.v (.int .u8 (ar.cv .u8 tty)))]], hYl, iAdd har (by simp only [List.length_singleton]; omega)]; simp only [List.length_singleton]; omega
  have hap : ar.app [[.c (.v (.int .u8 (ar.cv .u8 tty)))]] Y = ([tty] ++ bd).map b8 := by rw [appIs har, hcv, hY]; rfl
  have s1 : (1 + Y.length) * 1 ≤ 140737488355328 ∧ ∀ y ∈ Y, rlen y = 1 := ⟨by omega, by rw [hY]; exact b8_all _⟩
  conv => cbv
  refine ⟨fun _ => ?_, fun h => absurd (f0.symm.trans h) (by decide)⟩
  conv => cbv
  refine ⟨fun h => ?_, fun h => ?_⟩
  ·have g4 := cGt har (a := ar.ib .add .i64 (ar.len [[.c (.v (.int .u8 (ar.cv .u8 tty)))]]) (ar.len Y)) (b := 16777216) h
   rw [hl1] at g4
   rw [if_pos (by omega)] at hk
   conv => cbv
   exact hk
  ·have g4 := cNgt har (a := ar.ib .add .i64 (ar.len [[.c (.v (.int .u8 (ar.cv .u8 tty)))]]) (ar.len Y)) (b := 16777216) h
   rw [hl1] at g4
   rw [if_neg (by omega), ← hap] at hk
   conv => cbv
   exact ⟨fun _ => s1, hk⟩
 ·have g3 := cNne har (a := tty) (b := 0) h
  have hp : preB tty = [] := by rw [preB, if_pos g3]
  rw [hp, List.length_nil] at hk
  conv => cbv
  refine callL _ _ _ _ hΓ g2 ?_
  conv => cbv
  refine callE _ _ _ _ hΓ g2 ?_
  have hl1 : ar.ib .add .i64 0 (ar.len Y) = (bd.length : Int) := by rw [hYl, iAdd har (by omega)]; omega
  have hap : ar.app [] Y = ([] ++ bd).map b8 := by rw [appIs har, hY]; rfl
  have s1 : (0 + Y.length) * 1 ≤ 140737488355328 ∧ ∀ y ∈ Y, rlen y = 1 := ⟨by omega, by rw [hY]; exact b8_all _⟩
  conv => cbv
  refine ⟨fun _ => ?_, fun h => absurd (f0.symm.trans h) (by decide)⟩
  conv => cbv
  refine ⟨fun h => ?_, fun h => ?_⟩
  ·have g4 := cGt har (a := ar.ib .add .i64 0 (ar.len Y)) (b := 16777216) h
   rw [hl1] at g4
   rw [if_pos (by omega)] at hk
   conv => cbv
   exact hk
  ·have g4 := cNgt har (a := ar.ib .add .i64 0 (ar.len Y)) (b := 16777216) h
   rw [hl1] at g4
   rw [if_neg (by omega), ← hap] at hk
   conv => cbv
   exact ⟨fun _ => s1, hk⟩
theorem check15_sound : Sound Tryd.prog 17 fun args k => ∃ (t : Tx), args = [.a t.row] ∧ t.ok ∧ t.fit ∧ k [.s (.v (.int .i64 (encR t).2))] := by
 refine Sound.of_body tt_ok ent_ok Tryd.func17 rfl ?_
 rintro ar har Γ hΓ args k ⟨⟨tty, tch, tno, tpr, tti, tca, tga, tcr, tto, tva, td, tsd, tac, tsac, tbc, tbl, tsbl, tau, tsau, tv, tr, ts⟩, hargs, hto, hft, hk⟩
 obtain ⟨t, ht⟩ : ∃ t, t = Tx.mk tty tch tno tpr tti tca tga tcr tto tva td tsd tac tsac tbc tbl tsbl tau tsau tv tr ts := ⟨_, rfl⟩
 obtain ⟨tWpr, thWpr⟩ : ∃ x, x = w4 tpr := ⟨_, rfl⟩
 obtain ⟨tWti, thWti⟩ : ∃ x, x = w4 tti := ⟨_, rfl⟩
 obtain ⟨tWca, thWca⟩ : ∃ x, x = w4 tca := ⟨_, rfl⟩
 obtain ⟨tWva, thWva⟩ : ∃ x, x = w4 tva := ⟨_, rfl⟩
 obtain ⟨tWbc, thWbc⟩ : ∃ x, x = w4 tbc := ⟨_, rfl⟩
 obtain ⟨tWv, thWv⟩ : ∃ x, x = w4 tv := ⟨_, rfl⟩
 obtain ⟨tWr, thWr⟩ : ∃ x, x = w4 tr := ⟨_, rfl⟩
 obtain ⟨tWs, thWs⟩ : ∃ x, x = w4 ts := ⟨_, rfl⟩
 obtain ⟨tWto, thWto⟩ : ∃ x, x = u8s tto := ⟨_, rfl⟩
 obtain ⟨tD, thD⟩ : ∃ x, x = td.map b8' := ⟨_, rfl⟩
 obtain ⟨tA, thA⟩ : ∃ x, x = tac.map Ent.row := ⟨_, rfl⟩
 obtain ⟨tB, thB⟩ : ∃ x, x = tbl.map key := ⟨_, rfl⟩
 obtain ⟨tU, thU⟩ : ∃ x, x = tau.map Au.row := ⟨_, rfl⟩
 obtain ⟨tIch, thIch⟩ : ∃ x : Int, x = (tch : Int) := ⟨_, rfl⟩
 obtain ⟨tIno, thIno⟩ : ∃ x : Int, x = (tno : Int) := ⟨_, rfl⟩
 obtain ⟨tIga, thIga⟩ : ∃ x : Int, x = (tga : Int) := ⟨_, rfl⟩
 have hrow : t.row = [.c (.v (.int .i64 tty)), .c (.v (.int .u64 tIch)), .c (.v (.int .u64 tIno)), .r 4 tWpr, .r 4 tWti, .r 4 tWca, .c (.v (.int .u64 tIga)), .c (.v (.bool tcr)), .r 20 tWto, .r 4 tWva, .c (.sl tD tsd), .c (.sl tA tsac), .r 4 tWbc, .c (.sl tB tsbl), .c (.sl tU tsau), .r 4 tWv, .r 4 tWr, .r 4 tWs] := by rw [ht]; exact (by rw [thWpr, thWti, thWca, thWva, thWbc, thWv, thWr, thWs, thWto, thD, thA, thB, thU, thIch, thIno, thIga]; rfl)
 rw [← ht] at hargs hto hft hk
 obtain ⟨e, he⟩ : ∃ x, x = (encR t).2 := ⟨_, rfl⟩
 obtain ⟨Y, hY⟩ : ∃ x, x = (encR t).1.map b8 := ⟨_, rfl⟩
 have callE : ∀ (Γ : Ctx) (d' : Nat) (k : List PR → Prop) (R : Prop), Γ = ctx Tryd.prog d' → k [.s (.sl Y []), .s (.v (.int .i64 e))] → Γ.g 6 [.a [.c (.v (.int .i64 tty)), .c (.v (.int .u64 tIch)), .c (.v (.int .u64 tIno)), .r 4 tWpr, .r 4 tWti, .r 4 tWca, .c (.v (.int .u64 tIga)), .c (.v (.bool tcr)), .r 20 tWto, .r 4 tWva, .c (.sl tD tsd), .c (.sl tA tsac), .r 4 tWbc, .c (.sl tB tsbl), .c (.sl tU tsau), .r 4 tWv, .r 4 tWr, .r 4 tWs]] k ∨ R := fun Γ d' k R hΓ hk => call_by hΓ encode15_sound ⟨t, by rw [hrow], hto, hft, by rw [← he, ← hY]; exact hk⟩
 rw [← he] at hk
 rw [hrow] at hargs
 subst hargs
 conv => cbv
 refine callE _ _ _ _ hΓ ?_
 conv => cbv
 exact hk
end Go.Eng
