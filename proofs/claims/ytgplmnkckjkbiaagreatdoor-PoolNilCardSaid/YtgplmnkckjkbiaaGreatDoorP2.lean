/-
  The law PoolNil returns true. No condition.
-/
import Derived.Test.YtgplmnkckjkbiaaGreatDoorP1
namespace Go.Eng
open Go Go.Proofs
set_option maxRecDepth 100000
set_option maxHeartbeats 4000000

theorem poolNil_sound : Sound Tryz.prog 4 fun args k => args = [] ∧ k [.s (.v (.bool true))] := by
  refine Sound.of_body tt_ok ent_ok Tryz.func4 rfl ?_
  rintro ar har Γ hΓ args k ⟨hargs, hk⟩
  have n11 : ar.cb .neq 1 1 = false := tcb har rfl
  have n00 : ar.cb .neq 0 0 = false := tcb har rfl
  have e00 : ar.cb .eql 0 0 = true := tcb har rfl
  have l00 : ar.len [] = 0 := by rw [har]; rfl
  have n0l : ar.cb .neq (ar.len []) 0 = false := by rw [l00]; exact n00
  have e0l : ar.cb .eql (ar.len []) 0 = true := by rw [l00]; exact e00
  obtain ⟨zs, hzs⟩ : ∃ zs : List Value, zs = List.replicate 32 (.int .u8 0) := ⟨_, rfl⟩
  have zi : ints .u8 zs := by
    rw [hzs]; intro w hw
    exact ⟨0, List.eq_of_mem_replicate hw⟩
  have zz : ar.eqv zs zs = true := by
    rw [eqvIs har, hzs]; rfl
  subst hargs
  conv => cbv
  refine call_by hΓ poolAdd_sound ⟨_, rfl, ?_⟩
  conv => cbv
  refine call_by hΓ poolRaw_sound ⟨_, rfl, ?_⟩
  conv => cbv
  refine gonT n11 ?_
  conv => cbv
  refine gonT n11 ?_
  conv => cbv
  have zr : zs = [.int .u8 0, .int .u8 0, .int .u8 0, .int .u8 0, .int .u8 0, .int .u8 0, .int .u8 0, .int .u8 0, .int .u8 0, .int .u8 0, .int .u8 0, .int .u8 0, .int .u8 0, .int .u8 0, .int .u8 0, .int .u8 0, .int .u8 0, .int .u8 0, .int .u8 0, .int .u8 0, .int .u8 0, .int .u8 0, .int .u8 0, .int .u8 0, .int .u8 0, .int .u8 0, .int .u8 0, .int .u8 0, .int .u8 0, .int .u8 0, .int .u8 0, .int .u8 0] := hzs
  rw [zr] at zi zz
  have nbf : ∀ b : Bool, b = true → ar.nb b = false := fun b h => by rw [har, h]; rfl
  refine ⟨fun _ => ⟨zi, zi⟩, gonT (nbf _ zz) ?_⟩
  conv => cbv
  refine gonT n0l ?_
  conv => cbv
  refine call_by hΓ poolSetAccount_sound ⟨_, _, _, rfl, ?_⟩
  conv => cbv
  refine gonT n11 ?_
  conv => cbv
  refine call_by hΓ poolSetBase_sound ⟨_, rfl, ?_⟩
  conv => cbv
  refine gonT n11 ?_
  conv => cbv
  refine call_by hΓ poolDrop_sound ⟨_, rfl, ?_⟩
  conv => cbv
  refine onF n11 ?_
  conv => cbv
  refine call_by hΓ poolHas_sound ⟨_, rfl, ?_⟩
  conv => cbv
  have nbt : ar.nb false = true := by rw [har]; rfl
  refine onT nbt ?_
  conv => cbv
  refine call_by hΓ poolLen_sound ⟨rfl, ?_⟩
  conv => cbv
  refine onT e00 ?_
  conv => cbv
  refine call_by hΓ poolNext_sound ⟨_, rfl, ?_⟩
  conv => cbv
  refine onT e00 ?_
  conv => cbv
  refine call_by hΓ poolWaiting_sound ⟨rfl, ?_⟩
  conv => cbv
  refine onT e0l ?_
  conv => cbv
  refine call_by hΓ poolReady_sound ⟨_, rfl, ?_⟩
  conv => cbv
  refine onT e0l ?_
  conv => cbv
  refine call_by hΓ poolMined_sound ⟨_, rfl, ?_⟩
  conv => cbv
  rw [← e00] at hk
  exact hk
end Go.Eng
