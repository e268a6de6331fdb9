/-
  The methods of a nil pool answer at once. No condition.
-/
import Derived.Test.YtgplmnkckjkbiaaGreatDoorEngP
namespace Go.Eng
open Go Go.Proofs
set_option maxRecDepth 100000
set_option maxHeartbeats 2000000

theorem poolAdd_sound : Sound Tryz.prog 11 fun args k => ∃ x : PV, args = [.s (.v (.pointer none)), .s x] ∧ k [.a [.r 32 (List.replicate 32 (.int .u8 0))], .s (.v (.int .i64 1))] := by
  refine Sound.of_body tt_ok ent_ok Tryz.func11 rfl ?_
  rintro ar har Γ hΓ args k ⟨x, rfl, hk⟩
  conv => cbv
  exact hk

theorem poolRaw_sound : Sound Tryz.prog 12 fun args k => ∃ x : List Value, args = [.s (.v (.pointer none)), .a [.r 32 x]] ∧ k [.s (.sl [] []), .s (.v (.int .i64 1))] := by
  refine Sound.of_body tt_ok ent_ok Tryz.func12 rfl ?_
  rintro ar har Γ hΓ args k ⟨x, rfl, hk⟩
  conv => cbv
  exact hk

theorem poolSetAccount_sound : Sound Tryz.prog 13 fun args k => ∃ (x : List Value) (n : Int) (y : List Value), args = [.s (.v (.pointer none)), .a [.r 20 x], .s (.v (.int .u64 n)), .a [.r 4 y]] ∧ k [.s (.v (.int .i64 1))] := by
  refine Sound.of_body tt_ok ent_ok Tryz.func13 rfl ?_
  rintro ar har Γ hΓ args k ⟨x, n, y, rfl, hk⟩
  conv => cbv
  exact hk

theorem poolSetBase_sound : Sound Tryz.prog 14 fun args k => ∃ x : List Value, args = [.s (.v (.pointer none)), .a [.r 4 x]] ∧ k [.s (.v (.int .i64 1))] := by
  refine Sound.of_body tt_ok ent_ok Tryz.func14 rfl ?_
  rintro ar har Γ hΓ args k ⟨x, rfl, hk⟩
  conv => cbv
  exact hk

theorem poolDrop_sound : Sound Tryz.prog 15 fun args k => ∃ x : List Value, args = [.s (.v (.pointer none)), .a [.r 32 x]] ∧ k [.s (.v (.int .i64 1))] := by
  refine Sound.of_body tt_ok ent_ok Tryz.func15 rfl ?_
  rintro ar har Γ hΓ args k ⟨x, rfl, hk⟩
  conv => cbv
  exact hk

theorem poolHas_sound : Sound Tryz.prog 16 fun args k => ∃ x : List Value, args = [.s (.v (.pointer none)), .a [.r 32 x]] ∧ k [.s (.v (.bool false))] := by
  refine Sound.of_body tt_ok ent_ok Tryz.func16 rfl ?_
  rintro ar har Γ hΓ args k ⟨x, rfl, hk⟩
  conv => cbv
  refine ⟨by rw [har]; kernel_rfl, ?_⟩
  exact hk

theorem poolLen_sound : Sound Tryz.prog 17 fun args k => args = [.s (.v (.pointer none))] ∧ k [.s (.v (.int .i64 0))] := by
  refine Sound.of_body tt_ok ent_ok Tryz.func17 rfl ?_
  rintro ar har Γ hΓ args k ⟨rfl, hk⟩
  conv => cbv
  exact hk

theorem poolNext_sound : Sound Tryz.prog 18 fun args k => ∃ x : List Value, args = [.s (.v (.pointer none)), .a [.r 20 x]] ∧ k [.s (.v (.int .u64 0))] := by
  refine Sound.of_body tt_ok ent_ok Tryz.func18 rfl ?_
  rintro ar har Γ hΓ args k ⟨x, rfl, hk⟩
  conv => cbv
  exact hk

theorem poolWaiting_sound : Sound Tryz.prog 19 fun args k => args = [.s (.v (.pointer none))] ∧ k [.s (.sl [] [])] := by
  refine Sound.of_body tt_ok ent_ok Tryz.func19 rfl ?_
  rintro ar har Γ hΓ args k ⟨rfl, hk⟩
  conv => cbv
  exact hk

theorem poolReady_sound : Sound Tryz.prog 20 fun args k => ∃ n : Int, args = [.s (.v (.pointer none)), .s (.v (.int .u64 n))] ∧ k [.s (.sl [] [])] := by
  refine Sound.of_body tt_ok ent_ok Tryz.func20 rfl ?_
  rintro ar har Γ hΓ args k ⟨n, rfl, hk⟩
  conv => cbv
  exact hk

theorem poolMined_sound : Sound Tryz.prog 21 fun args k => ∃ x : PV, args = [.s (.v (.pointer none)), .s x] ∧ k [.s (.v (.int .i64 0))] := by
  refine Sound.of_body tt_ok ent_ok Tryz.func21 rfl ?_
  rintro ar har Γ hΓ args k ⟨x, rfl, hk⟩
  conv => cbv
  exact hk

end Go.Eng
