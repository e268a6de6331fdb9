/-
  waybillplay.Copy, Lent, LentHashes: lists in new memory, marks behind them. Condition: at most 2^40 elements.
-/
import Derived.Test.YtejelaaocjfjbaaDoorD0
namespace Go.Eng
open Go Go.Proofs
set_option maxRecDepth 100000
set_option maxHeartbeats 4000000
set_option linter.unusedVariables false

theorem b8'_all (d : List Int) : ∀ y ∈ d.map b8', rlen y = 1 := fun y hy => by
  rw [List.mem_map] at hy; obtain ⟨x, _, rfl⟩ := hy; rfl
theorem key_all (d : List (List Int)) : ∀ y ∈ d.map key, rlen y = 32 := fun y hy => by
  rw [List.mem_map] at hy; obtain ⟨x, _, rfl⟩ := hy; rfl

theorem playCopy_sound : Sound Tryd.prog 83 fun args k => ∃ (d : List Int) (sd : List (List PS)), args = [.s (.sl (d.map b8') sd)] ∧ d.length ≤ 2 ^ 40 ∧ k [.s (.ow (d.map b8') 5 1 1)] := by
  refine Sound.of_bodyO [] 0 tt_ok ent_ok Tryd.func83 rfl ?_
  rintro ar har Γ hΓ args k ⟨d, sd, rfl, hl, hk⟩
  obtain ⟨D, hD⟩ : ∃ D, D = d.map b8' := ⟨_, rfl⟩
  have hD1 : ∀ y ∈ D, rlen y = 1 := by rw [hD]; exact b8'_all d
  have hD2 : D.length = d.length := by rw [hD, List.length_map]
  have hap : ar.app [] D = D := by rw [appIs har]; rfl
  rw [← hD] at hk ⊢
  rw [← hap] at hk
  conv => cbv
  refine ⟨fun _ => ⟨?_, hD1⟩, ?_⟩
  · show (0 + D.length) * 1 ≤ 140737488355328
    omega
  · conv => cbv
    exact hk

def a5 : List PS := [.c (.v (.int .u8 165))]
theorem playLent_sound : Sound Tryd.prog 54 fun args k => ∃ (d : List Int) (sd : List (List PS)), args = [.s (.sl (d.map b8') sd)] ∧ d.length ≤ 2 ^ 40 ∧ k [.s (.sl (d.map b8') (List.replicate 70 a5))] := by
  refine Sound.of_body tt_ok ent_ok Tryd.func54 rfl ?_
  rintro ar har Γ hΓ args k ⟨d, sd, hargs, hl, hk⟩
  obtain ⟨D, hD⟩ : ∃ D, D = d.map b8' := ⟨_, rfl⟩
  have hDl : ar.len D = (d.length : Int) := by rw [lenIs har, hD, List.length_map]
  have hDn : D.length = d.length := by rw [hD, List.length_map]
  obtain ⟨R, hR⟩ : ∃ R, R = List.replicate 70 a5 := ⟨_, rfl⟩
  rw [← hD, ← hR] at hk
  have callC : ∀ (Γ : Ctx) (d' : Nat) (k : List PR → Prop) (R : Prop), Γ = ctx Tryd.prog d' → k [.s (.ow D 5 1 1)] → Γ.g 83 [.s (.sl D sd)] k ∨ R := fun Γ d' k R hΓ hk => call_by hΓ playCopy_sound ⟨d, sd, by rw [hD], hl, by rw [← hD]; exact hk⟩
  rw [← hD] at hargs
  subst hargs
  conv => cbv
  refine callC _ _ _ _ hΓ ?_
  conv => cbv
  refine .inr ⟨{ q : Nat × Int × List (List PS) // q.1 ≤ 70 ∧ q.2.1 = q.1 ∧ q.2.2 = D ++ List.replicate q.1 a5 },
    fun q => ⟨mk 18 [(0, .s (.p (.sl D sd))), (3, .s (.own 0)), (4, pint q.1.2.1)], [.arr q.1.2.2 5 1 1 true]⟩,
    fun q => 70 - q.1.1, [], _, ⟨(0, 0, D), Nat.zero_le _, rfl, by simp⟩, rfl, ?_, ?_⟩
  · conv => cbv
    simp
  · rintro ⟨⟨p, pi, L⟩, hq⟩
    have hp : p ≤ 70 := hq.1
    have hpi : pi = (p : Int) := hq.2.1
    have hL : L = D ++ List.replicate p a5 := hq.2.2
    have hLl : L.length = d.length + p := by rw [hL, List.length_append, List.length_replicate, hDn]
    dsimp only
    conv => cbv
    refine ⟨fun h => ?_, fun h => ?_⟩
    · have g' := cLt har (b := 70) h
      have hlt : p < 70 := by omega
      have hL2 : ar.app L [[.c (.v (.int .u8 165))]] = D ++ List.replicate (p + 1) a5 := by
        rw [appIs har, hL, List.append_assoc, List.replicate_succ']; rfl
      have s1 : (L.length + 1) * 1 ≤ 140737488355328 ∧ ∀ y ∈ [[PS.c (.v (.int .u8 165))]], rlen y = 1 := ⟨by omega, by simp [rlen, PS.len]⟩
      conv => cbv
      refine ⟨fun _ => s1, ?_⟩
      refine ⟨⟨(p + 1, ar.ib .add .i64 pi 1, ar.app L [[.c (.v (.int .u8 165))]]), hlt, iSucc har hpi (by omega), hL2⟩, ?_, ?_⟩
      · dsimp only
        conv => cbv
        simp
      · show 70 - (p + 1) < 70 - p
        omega
    · have g' := cNlt har (b := 70) h
      have hpe : p = 70 := by omega
      subst hpe
      have e1 : ar.mid L 0 (ar.nat (ar.len D)) = D := by rw [natOf har hDl, midIs har, hL, ← hDn]; simp
      have e2 : ar.frm L (ar.nat (ar.len D)) = R := by rw [natOf har hDl, frmIs har, hL, ← hDn, hR]; simp
      rw [← e1, ← e2] at hk
      have b1 : 0 ≤ ar.len D ∧ ar.len D ≤ ((L.length + 0 : Nat) : Int) := by rw [hDl]; omega
      conv => cbv
      exact ⟨fun _ => b1, hk⟩

def mkH : List Int := 165 :: 90 :: List.replicate 30 0
def mkA : List Int := 165 :: 90 :: List.replicate 18 0
def lentH (l : List (List Int)) : PV := .sl (l.map key) [key mkH, key mkH]
set_option maxHeartbeats 1000000 in
theorem playLentHashes_sound : Sound Tryd.prog 55 fun args k => ∃ (l : List (List Int)) (sl : List (List PS)), args = [.s (.sl (l.map key) sl)] ∧ l.length ≤ 2 ^ 40 ∧ k [.s (.sl (l.map key) [key mkH, key mkH])] := by
  refine Sound.of_body tt_ok ent_ok Tryd.func55 rfl ?_
  rintro ar har Γ hΓ args k ⟨l, sl, hargs, hl, hk⟩
  obtain ⟨D, hD⟩ : ∃ D, D = l.map key := ⟨_, rfl⟩
  have hDl : ar.len D = (l.length : Int) := by rw [lenIs har, hD, List.length_map]
  have hDn : D.length = l.length := by rw [hD, List.length_map]
  have hD1 : ∀ y ∈ D, rlen y = 32 := by rw [hD]; exact key_all l
  have hap : ar.app [] D = D := by rw [appIs har]; rfl
  rw [← hD] at hk hargs
  subst hargs
  have e1 : ar.mid (ar.app (ar.app [] D) [key mkH, key mkH]) 0 (ar.nat (ar.len D)) = D := by rw [natOf har hDl, midIs har, appIs har, appIs har, ← hDn]; simp
  have e2 : ar.frm (ar.app (ar.app [] D) [key mkH, key mkH]) (ar.nat (ar.len D)) = [key mkH, key mkH] := by rw [natOf har hDl, frmIs har, appIs har, appIs har, ← hDn]; simp
  have hk2 : k [.s (.sl (ar.mid (ar.app (ar.app [] D) [key mkH, key mkH]) 0 (ar.nat (ar.len D))) (ar.frm (ar.app (ar.app [] D) [key mkH, key mkH]) (ar.nat (ar.len D))))] := by rw [e1, e2]; exact hk
  have s1 : (0 + D.length) * 32 ≤ 140737488355328 := by omega
  have s2 : ((ar.app [] D).length + [key mkH, key mkH].length) * 32 ≤ 140737488355328 := by rw [hap]; simp; omega
  have s3 : ∀ y ∈ [key mkH, key mkH], rlen y = 32 := by intro y hy; simp at hy; rw [hy]; rfl
  have s4 : 0 ≤ ar.len D ∧ ar.len D ≤ (((ar.app (ar.app [] D) [key mkH, key mkH]).length + 0 : Nat) : Int) := by rw [appIs har, appIs har, hDl]; simp; omega
  conv => cbv
  exact ⟨fun _ => ⟨s1, hD1⟩, fun _ => ⟨s2, s3⟩, fun _ => s4, hk2⟩
end Go.Eng
