/-
  bits.RotateLeft64, waybillref02.Rot, at; keccak.numbers, ways. Condition: turns below 64.
-/
import Derived.Test.YtejelaaocjfjbaaDoorK0
import Derived.Test.YtejelaaocjfjbaaDoorEngP
namespace Go.Eng
open Go Go.Proofs
set_option maxRecDepth 100000
set_option maxHeartbeats 4000000
set_option linter.unusedVariables false

theorem land63 {s : Nat} (h : s < 64) : intB .and .u64 (s : Int) 63 = (s : Int) := by
  have : ∀ s : Nat, s < 64 → intB .and .u64 (s : Int) 63 = (s : Int) := by decide
  exact this s h

theorem rotl_sound : Sound Tryd.prog 141 fun args k => ∃ (v : W6) (s : Nat), args = [.s (.v (wv v)), .s (.v (.int .i64 (s : Int)))] ∧ s < 64 ∧ k [.s (.v (wv (rot v s)))] := by
  refine Sound.of_body tt_ok ent_ok Tryd.func141 rfl ?_
  rintro ar har Γ hΓ args k ⟨v, s, hargs, hs, hk⟩
  obtain ⟨a, ha⟩ : ∃ a : Int, a = (v.toNat : Int) := ⟨_, rfl⟩
  obtain ⟨y, hy⟩ : ∃ a : Int, a = (s : Int) := ⟨_, rfl⟩
  have e1 : ar.ib .and .u64 (ar.cv .u64 y) 63 = (s : Int) := by rw [cvU64 har (by omega), iIs har, hy, land63 hs]
  have e2 : ar.ib .sub .u64 64 (ar.ib .and .u64 (ar.cv .u64 y) 63) = ((64 - s : Nat) : Int) := by
    rw [e1]; exact uSub har (a := 64) (by omega) (by omega)
  have e3 : ar.ib .or .u64 (ar.ib .shl .u64 a (ar.ib .and .u64 (ar.cv .u64 y) 63)) (ar.ib .shr .u64 a (ar.ib .sub .u64 64 (ar.ib .and .u64 (ar.cv .u64 y) 63))) = ((rot v s).toNat : Int) := by
    rw [e2, e1, iIs har, iIs har, iIs har, ha, kshl v (by omega), kshr v (by omega), kor]; rfl
  have hk : k [.s (.v (.int .u64 (ar.ib .or .u64 (ar.ib .shl .u64 a (ar.ib .and .u64 (ar.cv .u64 y) 63)) (ar.ib .shr .u64 a (ar.ib .sub .u64 64 (ar.ib .and .u64 (ar.cv .u64 y) 63))))))] := by rw [e3]; exact hk
  have s1 : 0 ≤ ar.ib .and .u64 (ar.cv .u64 y) 63 := by rw [e1]; omega
  have s2 : 0 ≤ ar.ib .sub .u64 64 (ar.ib .and .u64 (ar.cv .u64 y) 63) := by rw [e2]; omega
  unfold wv at hargs
  rw [← ha, ← hy] at hargs
  subst hargs
  conv => cbv
  exact ⟨fun _ => s1, fun _ => s2, hk⟩

theorem refRot_sound : Sound Tryd.prog 134 fun args k => ∃ (v : W6) (s : Nat), args = [.s (.v (wv v)), .s (.v (.int .i64 (s : Int)))] ∧ s < 64 ∧ k [.s (.v (wv (rot v s)))] := by
  refine Sound.of_body tt_ok ent_ok Tryd.func134 rfl ?_
  rintro ar har Γ hΓ args k ⟨v, s, hargs, hs, hk⟩
  obtain ⟨a, ha⟩ : ∃ a : Int, a = (v.toNat : Int) := ⟨_, rfl⟩
  obtain ⟨y, hy⟩ : ∃ a : Int, a = (s : Int) := ⟨_, rfl⟩
  have e1 : ar.cv .u64 y = (s : Int) := by rw [cvU64 har (by omega), hy]
  have e2 : ar.cv .u64 (ar.ib .sub .i64 64 y) = ((64 - s : Nat) : Int) := by
    rw [iSub har (by omega), cvU64 har (by omega), hy]; omega
  have e3 : ar.ib .or .u64 (ar.ib .shl .u64 a (ar.cv .u64 y)) (ar.ib .shr .u64 a (ar.cv .u64 (ar.ib .sub .i64 64 y))) = ((rot v s).toNat : Int) := by
    rw [e2, e1, iIs har, iIs har, iIs har, ha, kshl v (by omega), kshr v (by omega), kor]; rfl
  have hk1 : k [.s (.v (.int .u64 (ar.ib .or .u64 (ar.ib .shl .u64 a (ar.cv .u64 y)) (ar.ib .shr .u64 a (ar.cv .u64 (ar.ib .sub .i64 64 y))))))] := by rw [e3]; exact hk
  have hk0 : s = 0 → k [.s (.v (.int .u64 a))] := fun h => by rw [ha]; rw [h, rot0] at hk; exact hk
  have s1 : 0 ≤ ar.cv .u64 y := by rw [e1]; omega
  have s2 : 0 ≤ ar.cv .u64 (ar.ib .sub .i64 64 y) := by rw [e2]; omega
  unfold wv at hargs
  rw [← ha, ← hy] at hargs
  subst hargs
  conv => cbv
  refine ⟨fun h => ?_, fun h => ?_⟩
  · have hk := hk0 (by have := cEq har h; omega)
    conv => cbv
    exact hk
  · conv => cbv
    exact ⟨fun _ => s1, fun _ => s2, hk1⟩

theorem refAt_sound : Sound Tryd.prog 133 fun args k => ∃ (x y : Nat), args = [.s (.v (.int .i64 (x : Int))), .s (.v (.int .i64 (y : Int)))] ∧ x < 100 ∧ y < 100 ∧ k [.s (.v (.int .i64 ((x % 5 + 5 * (y % 5) : Nat) : Int)))] := by
  refine Sound.of_body tt_ok ent_ok Tryd.func133 rfl ?_
  rintro ar har Γ hΓ args k ⟨x, y, hargs, hx, hy, hk⟩
  obtain ⟨a, ha⟩ : ∃ a : Int, a = (x : Int) := ⟨_, rfl⟩
  obtain ⟨b, hb⟩ : ∃ a : Int, a = (y : Int) := ⟨_, rfl⟩
  have e1 : ar.ib .add .i64 (ar.ib .rem .i64 a 5) (ar.ib .mul .i64 5 (ar.ib .rem .i64 b 5)) = ((x % 5 + 5 * (y % 5) : Nat) : Int) := by
    rw [ha, hb, show (5 : Int) = ((5 : Nat) : Int) from rfl, iRem har, iRem har, iMul har (by omega), iAdd har (by omega)]; omega
  rw [← e1] at hk
  rw [← ha, ← hb] at hargs
  subst hargs
  conv => cbv
  exact hk

def ivs (l : List Nat) : List Value := l.map fun (n : Nat) => Value.int .i64 (n : Int)
theorem numbers_sound : Sound Tryd.prog 140 fun args k => args = [] ∧ k [.a [.r 24 (wvs nums)]] := by
  refine Sound.of_body tt_ok ent_ok Tryd.func140 rfl ?_
  rintro ar har Γ hΓ args k ⟨hargs, hk⟩
  subst hargs
  conv => cbv
  exact hk

theorem ways_sound : Sound Tryd.prog 139 fun args k => args = [] ∧ k [.a [.r 25 (ivs turs)], .a [.r 25 (ivs goes)]] := by
  refine Sound.of_body tt_ok ent_ok Tryd.func139 rfl ?_
  rintro ar har Γ hΓ args k ⟨hargs, hk⟩
  subst hargs
  conv => cbv
  refine .inl ⟨6, ?_⟩
  conv => cbv
  refine .inl ⟨6, ?_⟩
  conv => cbv
  refine .inl ⟨6, ?_⟩
  conv => cbv
  refine .inl ⟨6, ?_⟩
  conv => cbv
  refine .inl ⟨6, ?_⟩
  conv => cbv
  refine .inl ⟨6, ?_⟩
  conv => cbv
  refine ⟨Unit, fun _ => ⟨mk 29 [(0, .s (.ptr 0 0)), (1, .s (.ptr 1 0))], [.box [.r 25 (ivs turs)], .box [.r 25 (ivs goes)]]⟩, ?_, fun _ => ?_⟩
  · conv => cbv
    simp
    conv => cbv
    try simp
  · conv => cbv
    exact hk
end Go.Eng
