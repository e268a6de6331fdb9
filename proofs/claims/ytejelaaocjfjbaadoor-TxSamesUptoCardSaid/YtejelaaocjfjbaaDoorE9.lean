/-
  waybillplay.Still, StillHashes: is what was lent what it was? Condition: at most 2^36 elements.
-/
import Derived.Test.YtejelaaocjfjbaaDoorE8
import Derived.Test.YtejelaaocjfjbaaDoorE2
namespace Go.Eng
open Go Go.Proofs
set_option maxRecDepth 100000
set_option maxHeartbeats 4000000
set_option linter.unusedVariables false

theorem playStill_sound : Sound Tryd.prog 56 fun args k => ∃ (d : List Int) (s : List (List PS)), args = [.s (.sl (d.map b8') a5s), .s (.sl (d.map b8') s)] ∧ d.length ≤ 2 ^ 36 ∧ k [.s (.v (.bool true))] := by
  refine Sound.of_body tt_ok ent_ok Tryd.func56 rfl ?_
  rintro ar har Γ hΓ args k ⟨d, s, hargs, hl, hk⟩
  obtain ⟨D, hD⟩ : ∃ D, D = d.map b8' := ⟨_, rfl⟩
  obtain ⟨R, hR⟩ : ∃ R, R = List.replicate 69 a5 := ⟨_, rfl⟩
  have hRR : a5s = [.c (.v (.int .u8 165))] :: R := by rw [hR]; rfl
  have hDl : ar.len D = (d.length : Int) := by rw [lenIs har, hD, List.length_map]
  have hDn : D.length = d.length := by rw [hD, List.length_map]
  have hRn : R.length = 69 := by rw [hR]; rfl
  have hne : ar.cb .neq (ar.len D) (ar.len D) = false := dNne har rfl
  have h70 : ar.ib .add .i64 (ar.len D) 70 = ((d.length + 70 : Nat) : Int) := by rw [hDl, iAdd har (by omega)]; omega
  have callS : ∀ (Γ : Ctx) (d' : Nat) (k : List PR → Prop) (Q : Prop), Γ = ctx Tryd.prog d' → k [.s (.v (.bool true))] → Γ.g 84 [.s (.sl D ([.c (.v (.int .u8 165))] :: R)), .s (.sl D s)] k ∨ Q := fun Γ d' k Q hΓ hk => call_by hΓ playSame_sound ⟨d, d, _, s, true, by rw [hD], by omega, fun _ _ => trivial, fun _ _ => trivial, by simp, hk⟩
  have s1 : 0 ≤ ar.ib .add .i64 (ar.len D) 70 ∧ ar.ib .add .i64 (ar.len D) 70 ≤ ((D.length + (R.length + 1) : Nat) : Int) := by rw [h70]; omega
  have f1 : ar.mid (ar.app D ([.c (.v (.int .u8 165))] :: R)) 0 (ar.nat (ar.ib .add .i64 (ar.len D) 70)) = D ++ a5s := by
    rw [natOf har h70, midIs har, appIs har, ← hRR, ← hDn]
    have e : (D ++ a5s).length = D.length + 70 := by simp [a5s]
    rw [← e, List.take_length, List.drop_zero]
  rw [← hD, hRR] at hargs
  subst hargs
  conv => cbv
  refine onF hne ?_
  conv => cbv
  refine ⟨fun _ => s1, ?_⟩
  refine .inr ⟨{ q : Nat × Int × List (List PS) × List (List PS) // q.1 ≤ 70 ∧ q.2.1 = q.1 ∧ q.2.2.1 = D ++ a5s },
    fun q => ⟨mk 32 [(0, .s (.p (.sl D ([.c (.v (.int .u8 165))] :: R)))), (1, .s (.p (.sl D s))), (5, .s (.p (.sl q.1.2.2.1 q.1.2.2.2))), (6, pint q.1.2.1)], []⟩,
    fun q => 70 - q.1.1, [], _, ⟨(0, 0, ar.mid (ar.app D ([.c (.v (.int .u8 165))] :: R)) 0 (ar.nat (ar.ib .add .i64 (ar.len D) 70)), ar.frm (ar.app D ([.c (.v (.int .u8 165))] :: R)) (ar.nat (ar.ib .add .i64 (ar.len D) 70))), Nat.zero_le _, rfl, f1⟩, rfl, ?_, ?_⟩
  · conv => cbv
    simp
  · rintro ⟨⟨p, pi, F, G⟩, hq⟩
    have hp : p ≤ 70 := hq.1
    have hpi : pi = (p : Int) := hq.2.1
    have hF : F = D ++ a5s := hq.2.2
    dsimp only
    conv => cbv
    refine ⟨fun h => ?_, fun h => ?_⟩
    · have g' := cLt har (b := 70) h
      have hlt : p < 70 := by omega
      have hix : ar.ib .add .i64 (ar.len D) pi = ((d.length + p : Nat) : Int) := by rw [hDl, iAdd har (by omega)]; omega
      have rx : F[(ar.ib .add .i64 (ar.len D) pi).toNat]? = some [.c (.v (.int .u8 165))] := by
        rw [hix, Int.toNat_natCast, hF, List.getElem?_append_right (by omega), hDn, Nat.add_sub_cancel_left, a5s, List.getElem?_replicate, if_pos hlt]; rfl
      have n1 : ar.cb .neq 165 165 = false := dNne har rfl
      have hix0 : 0 ≤ ar.ib .add .i64 (ar.len D) pi := by rw [hix]; omega
      conv => cbv
      refine ⟨_, hix0, rx, rfl, ?_⟩
      conv => cbv
      refine onF n1 ?_
      conv => cbv
      refine ⟨⟨(p + 1, ar.ib .add .i64 pi 1, F, G), hlt, iSucc har hpi (by omega), hF⟩, ?_, ?_⟩
      · dsimp only
        conv => cbv
        simp
      · show 70 - (p + 1) < 70 - p
        omega
    · conv => cbv
      refine callS _ _ _ _ hΓ ?_
      conv => cbv
      exact hk

theorem playStillHashes_sound : Sound Tryd.prog 57 fun args k => ∃ (d : List (List Int)) (s : List (List PS)), args = [.s (.sl (d.map key) [key mkH, key mkH]), .s (.sl (d.map key) s)] ∧ d.length ≤ 2 ^ 36 ∧ k [.s (.v (.bool true))] := by
  refine Sound.of_body tt_ok ent_ok Tryd.func57 rfl ?_
  rintro ar har Γ hΓ args k ⟨d, s, hargs, hl, hk⟩
  obtain ⟨D, hD⟩ : ∃ D, D = d.map key := ⟨_, rfl⟩
  have hDl : ar.len D = (d.length : Int) := by rw [lenIs har, hD, List.length_map]
  have hDn : D.length = d.length := by rw [hD, List.length_map]
  have hne : ar.cb .neq (ar.len D) (ar.len D) = false := dNne har rfl
  have h2 : ar.ib .add .i64 (ar.len D) 2 = ((d.length + 2 : Nat) : Int) := by rw [hDl, iAdd har (by omega)]; omega
  have h1 : ar.ib .add .i64 (ar.len D) 1 = ((d.length + 1 : Nat) : Int) := by rw [hDl, iAdd har (by omega)]; omega
  have s1 : 0 ≤ ar.ib .add .i64 (ar.len D) 2 ∧ ar.ib .add .i64 (ar.len D) 2 ≤ ((D.length + 2 : Nat) : Int) := by rw [h2]; omega
  have f1 : ar.mid (ar.app D [key mkH, key mkH]) 0 (ar.nat (ar.ib .add .i64 (ar.len D) 2)) = D ++ [key mkH, key mkH] := by
    rw [natOf har h2, midIs har, appIs har, ← hDn]
    have e : (D ++ [key mkH, key mkH]).length = D.length + 2 := by simp
    rw [← e, List.take_length, List.drop_zero]
  rw [← hD] at hargs
  subst hargs
  conv => cbv
  refine onF hne ?_
  conv => cbv
  refine ⟨fun _ => s1, ?_⟩
  refine .inr ⟨{ q : Nat × Int × List (List PS) × List (List PS) // q.1 ≤ d.length ∧ q.2.1 = q.1 ∧ q.2.2.1 = D ++ [key mkH, key mkH] },
    fun q => ⟨mk 49 [(1, .s (.p (.sl D s))), (5, .s (.p (.sl q.1.2.2.1 q.1.2.2.2))), (6, pint q.1.2.1)], []⟩,
    fun q => d.length - q.1.1, [], _, ⟨(0, 0, ar.mid (ar.app D [key mkH, key mkH]) 0 (ar.nat (ar.ib .add .i64 (ar.len D) 2)), ar.frm (ar.app D [key mkH, key mkH]) (ar.nat (ar.ib .add .i64 (ar.len D) 2))), Nat.zero_le _, rfl, f1⟩, rfl, ?_, ?_⟩
  · conv => cbv
    simp
  · rintro ⟨⟨p, pi, F, G⟩, hq⟩
    have hp : p ≤ d.length := hq.1
    have hpi : pi = (p : Int) := hq.2.1
    have hF : F = D ++ [key mkH, key mkH] := hq.2.2
    dsimp only
    conv => cbv
    refine ⟨fun h => ?_, fun h => ?_⟩
    · have g' := cLt har (b := ar.len D) h
      have hlt : p < d.length := by omega
      obtain ⟨x, hx⟩ : ∃ x, d[p]? = some x := ⟨_, List.getElem?_eq_getElem hlt⟩
      obtain ⟨xv, hxv⟩ : ∃ xv, xv = u8s x := ⟨_, rfl⟩
      have rx : D[pi.toNat]? = some [.r 32 xv] := by rw [hD, hpi]; simp [hx, key, hxv]
      have ry : F[pi.toNat]? = some [.r 32 xv] := by rw [hF, List.getElem?_append_left (by rw [hDn, hpi]; simpa using hlt)]; exact rx
      have nT : ar.nb (ar.eqv xv xv) = false := by
        have : ar.eqv xv xv = true := by rw [eqvIs har, hxv, eqVals_u8s]; simp
        rw [this, har]; rfl
      conv => cbv
      refine ⟨by rw [har]; kernel_rfl, ?_⟩
      refine ⟨_, by omega, ry, rfl, ?_⟩
      conv => cbv
      refine ⟨_, by omega, rx, rfl, ?_⟩
      conv => cbv
      refine ⟨fun _ => by rw [hxv]; exact ⟨ints_u8s _, ints_u8s _⟩, ?_⟩
      refine onF nT ?_
      conv => cbv
      refine ⟨⟨(p + 1, ar.ib .add .i64 pi 1, F, G), hlt, iSucc har hpi (by omega), hF⟩, ?_, ?_⟩
      · dsimp only
        conv => cbv
        simp
      · show d.length - (p + 1) < d.length - p
        omega
    · obtain ⟨M, hM⟩ : ∃ M, M = u8s mkH := ⟨_, rfl⟩
      have r1 : F[(ar.len D).toNat]? = some [.r 32 M] := by
        rw [hDl, Int.toNat_natCast, hF, List.getElem?_append_right (by omega), hDn, Nat.sub_self, hM]; rfl
      have r2 : F[(ar.ib .add .i64 (ar.len D) 1).toNat]? = some [.r 32 M] := by
        rw [h1, Int.toNat_natCast, hF, List.getElem?_append_right (by omega), hDn, Nat.add_sub_cancel_left, hM]; rfl
      have hl0 : 0 ≤ ar.len D := by omega
      have hl1 : 0 ≤ ar.ib .add .i64 (ar.len D) 1 := by omega
      conv => cbv
      refine ⟨by rw [har]; kernel_rfl, ?_⟩
      refine ⟨_, hl0, r1, rfl, ?_⟩
      conv => cbv
      have hMM : ar.eqv M (u8s mkH) = true := by rw [eqvIs har, hM, eqVals_u8s]; simp
      have hMi : ints .u8 M ∧ ints .u8 (u8s mkH) := by rw [hM]; exact ⟨ints_u8s _, ints_u8s _⟩
      have hk2 : k [.s (.v (.bool (ar.eqv M (u8s mkH))))] := by rw [hMM]; exact hk
      refine ⟨fun _ => hMi, ?_⟩
      refine onT hMM ?_
      conv => cbv
      refine ⟨_, hl1, r2, rfl, ?_⟩
      conv => cbv
      exact ⟨fun _ => hMi, hk2⟩
end Go.Eng
