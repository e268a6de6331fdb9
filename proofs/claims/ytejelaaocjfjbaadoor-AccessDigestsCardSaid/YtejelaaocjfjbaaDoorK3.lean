/-
  waybillref02: moved, mixed, columns, Permute. No condition.
-/
import Derived.Test.YtejelaaocjfjbaaDoorK2
namespace Go.Eng
open Go Go.Proofs
set_option maxRecDepth 100000
set_option maxHeartbeats 8000000
set_option linter.unusedVariables false

theorem iMulL {ar : Ar} (har : ar = arS) {a b : Int} {n m : Nat} (h : a = (n : Int)) (h2 : b = (m : Int)) (hs : n * m < 1000) : ar.ib .mul .i64 a b = ((n * m : Nat) : Int) := by
  subst h; subst h2; rw [iMul har (by rw [← Int.natCast_mul]; omega)]; simp
theorem callA {x y n : Nat} {a b c : Int} {Γ : Ctx} {d : Nat} {k : List PR → Prop} (hΓ : Γ = ctx Tryd.prog d) (ha : a = (x : Int)) (hb : b = (y : Int)) (hx : x < 100) (hy : y < 100) (hn : x % 5 + 5 * (y % 5) = n) (hc : c = (n : Int)) (hk : k [.s (.v (.int .i64 c))]) : Γ.g 133 [.s (.v (.int .i64 a)), .s (.v (.int .i64 b))] k :=
  call_by' hΓ refAt_sound ⟨x, y, by rw [ha, hb], hx, hy, by rw [hn, ← hc]; exact hk⟩
theorem callT {v : W6} {s : Nat} {a b c : Int} {Γ : Ctx} {d : Nat} {k : List PR → Prop} (hΓ : Γ = ctx Tryd.prog d) (ha : a = (v.toNat : Int)) (hb : b = (s : Int)) (hs : s < 64) (hc : c = ((rot v s).toNat : Int)) (hk : k [.s (.v (.int .u64 c))]) : Γ.g 134 [.s (.v (.int .u64 a)), .s (.v (.int .i64 b))] k :=
  call_by' hΓ refRot_sound ⟨v, s, by rw [ha, hb]; rfl, hs, by rw [hc] at hk; exact hk⟩

theorem refMoved_sound : Sound Tryd.prog 117 fun args k => ∃ L : List W6, args = [.a [.r 25 (wvs L)]] ∧ L.length = 25 ∧ k [.a [.r 25 (wvs (movR L))]] := by
  refine Sound.of_body tt_ok ent_ok Tryd.func117 rfl ?_
  rintro ar har Γ hΓ args k ⟨L, hargs, hL, hk⟩
  obtain ⟨Y, hY⟩ : ∃ X, X = wvs L := ⟨_, rfl⟩
  rw [← hY] at hargs
  subst hargs
  conv => cbv

  refine .inr ⟨{ q : Nat × Int × List Value // q.1 ≤ 5 ∧ q.2.1 = q.1 ∧ q.2.2 = wvs (movAt L (5 * q.1)) },
    fun q => ⟨mk 34 [(1, .s (.ptr 0 0)), (2, .s (.ptr 1 0)), (3, .s (.ptr 2 0)), (4, pint q.1.2.1)], [.box [.r 25 Y], .box [.r 25 (wvs (List.replicate 25 0))], .box [.r 25 q.1.2.2]]⟩,
    fun q => 5 - q.1.1, [], _, ⟨(0, 0, wvs (List.replicate 25 0)), Nat.zero_le _, rfl, rfl⟩, rfl, ?_, ?_⟩
  · conv => cbv
    simp
  rintro ⟨⟨x, xi, Z⟩, hq⟩
  have hx5 : x ≤ 5 := hq.1
  have hxi : xi = (x : Int) := hq.2.1
  have hZ0 : Z = wvs (movAt L (5 * x)) := hq.2.2
  dsimp only
  conv => cbv
  refine ⟨fun h => ?_, fun h => ?_⟩
  rotate_left
  · have hxe : x = 5 := by have := cNlt har (b := 5) h; omega
    have hk : k [.a [.r 25 Z]] := by rw [hZ0, hxe]; exact hk
    conv => cbv
    exact hk
  have hxlt : x < 5 := by have := cLt har (b := 5) h; omega
  conv => cbv
  refine .inr ⟨{ q : Nat × Int × List Value // q.1 ≤ 5 ∧ q.2.1 = q.1 ∧ q.2.2 = wvs (movAt L (5 * x + q.1)) },
    fun q => ⟨mk 34 [(1, .s (.ptr 0 0)), (2, .s (.ptr 1 0)), (3, .s (.ptr 2 0)), (4, pint xi), (5, pint q.1.2.1)], [.box [.r 25 Y], .box [.r 25 (wvs (List.replicate 25 0))], .box [.r 25 q.1.2.2]]⟩,
    fun q => 5 - q.1.1, [], _, ⟨(0, 0, Z), Nat.zero_le _, rfl, hZ0⟩, rfl, ?_, ?_⟩
  · conv => cbv
    simp
  rintro ⟨⟨y, yi, Z⟩, hq⟩
  have hy5 : y ≤ 5 := hq.1
  have hyi : yi = (y : Int) := hq.2.1
  have hZ : Z = wvs (movAt L (5 * x + y)) := hq.2.2
  dsimp only
  conv => cbv
  refine ⟨fun h => ?_, fun h => ?_⟩
  rotate_left
  · have hye : y = 5 := by have := cNlt har (b := 5) h; omega
    rw [hye] at hZ
    conv => cbv
    refine ⟨⟨(x + 1, ar.ib .add .i64 xi 1, Z), hxlt, iSucc har hxi (by omega), hZ⟩, ?_, ?_⟩
    · dsimp only
      conv => cbv
      simp
    · show 5 - (x + 1) < 5 - x
      omega
  have hylt : y < 5 := by have := cLt har (b := 5) h; omega
  have m1 : (5 * x + y) / 5 = x := by omega
  have m2 : (5 * x + y) % 5 = y := by omega
  obtain ⟨c, hc⟩ : ∃ z : Int, z = ((y % 5 + 5 * ((2 * x + 3 * y) % 5) : Nat) : Int) := ⟨_, rfl⟩
  obtain ⟨e, he⟩ : ∃ z : Int, z = ((x + 5 * y : Nat) : Int) := ⟨_, rfl⟩
  obtain ⟨z, hz⟩ : ∃ z : Int, z = ((g L (x + 5 * y)).toNat : Int) := ⟨_, rfl⟩
  obtain ⟨tr, htr⟩ : ∃ z : Int, z = (tur (x + 5 * y) : Int) := ⟨_, rfl⟩
  obtain ⟨r, hr⟩ : ∃ z : Int, z = ((rot (g L (x + 5 * y)) (tur (x + 5 * y))).toNat : Int) := ⟨_, rfl⟩
  have i0 : ar.ib .add .i64 (ar.ib .mul .i64 2 xi) (ar.ib .mul .i64 3 yi) = ((2 * x + 3 * y : Nat) : Int) := iAddL har (iMulL har (n := 2) rfl hxi (by omega)) (iMulL har (n := 3) rfl hyi (by omega)) (by omega)
  have hne : ar.nat e = x + 5 * y := natOf har he
  have hnc : ar.nat c = y % 5 + 5 * ((2 * x + 3 * y) % 5) := natOf har hc
  have hL0 : Y[ar.nat e]? = some (.int .u64 z) := by rw [hne, hY, hz]; exact g_get (by omega)
  have be : 0 ≤ e ∧ e < 25 := by omega
  have bc : 0 ≤ c ∧ c < 25 := by omega
  have nc25 : ar.nat c < 25 := by rw [hnc]; omega
  have htu : (ivs turs)[e.toNat]? = some (.int .i64 tr) := get_at he (by rw [htr]; exact turs_get (by omega))
  have hZ2 : ar.set Z (ar.nat c) (.int .u64 r) = wvs (movAt L (5 * x + (y + 1))) := by
    rw [setIs har, hnc, hr, hZ, ← Nat.add_assoc, movAt, ← wvs_set, movV, m1, m2, Nat.mod_eq_of_lt hylt]; rfl
  conv => cbv
  refine ⟨by rw [har]; kernel_rfl, ?_⟩
  refine callA hΓ hyi i0 (by omega) (by omega) rfl hc ?_
  conv => cbv
  refine callA hΓ hxi hyi (by omega) (by omega) (show _ = x + 5 * y by omega) he ?_
  conv => cbv
  refine ⟨fun _ => be, _, hL0, ?_⟩
  conv => cbv
  refine callA hΓ hxi hyi (by omega) (by omega) (show _ = x + 5 * y by omega) he ?_
  conv => cbv
  refine ⟨_, be.1, htu, ?_⟩
  conv => cbv
  refine callT hΓ hz htr (tur_lt _ (by omega)) hr ?_
  conv => cbv
  refine ⟨fun _ => bc, fun _ => nc25, ?_⟩
  refine ⟨⟨(y + 1, ar.ib .add .i64 yi 1, _), hylt, iSucc har hyi (by omega), hZ2⟩, ?_, ?_⟩
  · dsimp only
    conv => cbv
    simp
  · show 5 - (y + 1) < 5 - y
    omega

theorem refMixed_sound : Sound Tryd.prog 118 fun args k => ∃ L : List W6, args = [.a [.r 25 (wvs L)]] ∧ L.length = 25 ∧ k [.a [.r 25 (wvs (mixR L))]] := by
  refine Sound.of_body tt_ok ent_ok Tryd.func118 rfl ?_
  rintro ar har Γ hΓ args k ⟨L, hargs, hL, hk⟩
  obtain ⟨Y, hY⟩ : ∃ X, X = wvs L := ⟨_, rfl⟩
  rw [← hY] at hargs
  subst hargs
  conv => cbv

  refine .inr ⟨{ q : Nat × Int × List Value // q.1 ≤ 5 ∧ q.2.1 = q.1 ∧ q.2.2 = wvs (mixAt L (5 * q.1)) },
    fun q => ⟨mk 39 [(1, .s (.ptr 0 0)), (2, .s (.ptr 1 0)), (3, .s (.ptr 2 0)), (4, pint q.1.2.1)], [.box [.r 25 Y], .box [.r 25 (wvs (List.replicate 25 0))], .box [.r 25 q.1.2.2]]⟩,
    fun q => 5 - q.1.1, [], _, ⟨(0, 0, wvs (List.replicate 25 0)), Nat.zero_le _, rfl, rfl⟩, rfl, ?_, ?_⟩
  · conv => cbv
    simp
  rintro ⟨⟨x, xi, Z⟩, hq⟩
  have hx5 : x ≤ 5 := hq.1
  have hxi : xi = (x : Int) := hq.2.1
  have hZ0 : Z = wvs (mixAt L (5 * x)) := hq.2.2
  dsimp only
  conv => cbv
  refine ⟨fun h => ?_, fun h => ?_⟩
  rotate_left
  · have hxe : x = 5 := by have := cNlt har (b := 5) h; omega
    have hk : k [.a [.r 25 Z]] := by rw [hZ0, hxe]; exact hk
    conv => cbv
    exact hk
  have hxlt : x < 5 := by have := cLt har (b := 5) h; omega
  conv => cbv
  refine .inr ⟨{ q : Nat × Int × List Value // q.1 ≤ 5 ∧ q.2.1 = q.1 ∧ q.2.2 = wvs (mixAt L (5 * x + q.1)) },
    fun q => ⟨mk 39 [(1, .s (.ptr 0 0)), (2, .s (.ptr 1 0)), (3, .s (.ptr 2 0)), (4, pint xi), (5, pint q.1.2.1)], [.box [.r 25 Y], .box [.r 25 (wvs (List.replicate 25 0))], .box [.r 25 q.1.2.2]]⟩,
    fun q => 5 - q.1.1, [], _, ⟨(0, 0, Z), Nat.zero_le _, rfl, hZ0⟩, rfl, ?_, ?_⟩
  · conv => cbv
    simp
  rintro ⟨⟨y, yi, Z⟩, hq⟩
  have hy5 : y ≤ 5 := hq.1
  have hyi : yi = (y : Int) := hq.2.1
  have hZ : Z = wvs (mixAt L (5 * x + y)) := hq.2.2
  dsimp only
  conv => cbv
  refine ⟨fun h => ?_, fun h => ?_⟩
  rotate_left
  · have hye : y = 5 := by have := cNlt har (b := 5) h; omega
    rw [hye] at hZ
    conv => cbv
    refine ⟨⟨(x + 1, ar.ib .add .i64 xi 1, Z), hxlt, iSucc har hxi (by omega), hZ⟩, ?_, ?_⟩
    · dsimp only
      conv => cbv
      simp
    · show 5 - (x + 1) < 5 - x
      omega
  have hylt : y < 5 := by have := cLt har (b := 5) h; omega
  have m1 : (5 * x + y) / 5 = x := by omega
  have m2 : (5 * x + y) % 5 = y := by omega
  obtain ⟨e, he⟩ : ∃ z : Int, z = ((x + 5 * y : Nat) : Int) := ⟨_, rfl⟩
  obtain ⟨e1, he1⟩ : ∃ z : Int, z = (((x + 1) % 5 + 5 * y : Nat) : Int) := ⟨_, rfl⟩
  obtain ⟨e2, he2⟩ : ∃ z : Int, z = (((x + 2) % 5 + 5 * y : Nat) : Int) := ⟨_, rfl⟩
  obtain ⟨z0, hz0⟩ : ∃ z : Int, z = ((g L (x + 5 * y)).toNat : Int) := ⟨_, rfl⟩
  obtain ⟨z1, hz1⟩ : ∃ z : Int, z = ((g L ((x + 1) % 5 + 5 * y)).toNat : Int) := ⟨_, rfl⟩
  obtain ⟨z2, hz2⟩ : ∃ z : Int, z = ((g L ((x + 2) % 5 + 5 * y)).toNat : Int) := ⟨_, rfl⟩
  have i1 : ar.ib .add .i64 xi 1 = ((x + 1 : Nat) : Int) := iAddL har hxi (m := 1) rfl (by omega)
  have i2 : ar.ib .add .i64 xi 2 = ((x + 2 : Nat) : Int) := iAddL har hxi (m := 2) rfl (by omega)
  have hne : ar.nat e = x + 5 * y := natOf har he
  have hne1 : ar.nat e1 = (x + 1) % 5 + 5 * y := natOf har he1
  have hne2 : ar.nat e2 = (x + 2) % 5 + 5 * y := natOf har he2
  have t0 : Y[ar.nat e]? = some (.int .u64 z0) := by rw [hne, hY, hz0]; exact g_get (by omega)
  have t1 : Y[ar.nat e1]? = some (.int .u64 z1) := by rw [hne1, hY, hz1]; exact g_get (by omega)
  have t2 : Y[ar.nat e2]? = some (.int .u64 z2) := by rw [hne2, hY, hz2]; exact g_get (by omega)
  have b0 : 0 ≤ e ∧ e < 25 := by omega
  have b1 : 0 ≤ e1 ∧ e1 < 25 := by omega
  have b2 : 0 ≤ e2 ∧ e2 < 25 := by omega
  have l0 : ar.nat e < 25 := by rw [hne]; omega
  have hZ2 : ar.set Z (ar.nat e) (.int .u64 (ar.ib .xor .u64 z0 (ar.ib .and .u64 (ar.ub .xor .u64 z1) z2))) = wvs (mixAt L (5 * x + (y + 1))) := by
    have eu : ar.ub .xor .u64 z1 = intU .xor .u64 z1 := by rw [har]; rfl
    rw [setIs har, hne, iIs har, iIs har, eu, hz0, hz1, hz2, knot, kand, kxor, hZ, ← Nat.add_assoc, mixAt, ← wvs_set, mixV, m1, m2]; rfl
  conv => cbv
  refine ⟨by rw [har]; kernel_rfl, ?_⟩
  refine callA hΓ hxi hyi (by omega) (by omega) (show _ = x + 5 * y by omega) he ?_
  conv => cbv
  refine callA hΓ hxi hyi (by omega) (by omega) (show _ = x + 5 * y by omega) he ?_
  conv => cbv
  refine ⟨fun _ => b0, _, t0, ?_⟩
  conv => cbv
  refine callA hΓ i1 hyi (by omega) (by omega) (show _ = (x + 1) % 5 + 5 * y by omega) he1 ?_
  conv => cbv
  refine ⟨fun _ => b1, _, t1, ?_⟩
  conv => cbv
  refine callA hΓ i2 hyi (by omega) (by omega) (show _ = (x + 2) % 5 + 5 * y by omega) he2 ?_
  conv => cbv
  refine ⟨fun _ => b2, _, t2, ?_⟩
  conv => cbv
  refine ⟨fun _ => b0, fun _ => l0, ?_⟩
  refine ⟨⟨(y + 1, ar.ib .add .i64 yi 1, _), hylt, iSucc har hyi (by omega), hZ2⟩, ?_, ?_⟩
  · dsimp only
    conv => cbv
    simp
  · show 5 - (y + 1) < 5 - y
    omega

theorem refColumns_sound : Sound Tryd.prog 116 fun args k => ∃ L : List W6, args = [.a [.r 25 (wvs L)]] ∧ L.length = 25 ∧ k [.a [.r 25 (wvs (colR L))]] := by
  refine Sound.of_body tt_ok ent_ok Tryd.func116 rfl ?_
  rintro ar har Γ hΓ args k ⟨L, hargs, hL, hk⟩
  obtain ⟨Y, hY⟩ : ∃ X, X = wvs L := ⟨_, rfl⟩
  rw [← hY] at hargs
  subst hargs
  conv => cbv
  refine .inr ⟨{ q : Nat × Int × List Value // q.1 ≤ 5 ∧ q.2.1 = q.1 ∧ q.2.2 = wvs (sumsR L q.1) },
    fun q => ⟨mk 70 [(1, .s (.ptr 0 0)), (2, .s (.ptr 1 0)), (3, .s (.ptr 2 0)), (4, pint q.1.2.1)], [.box [.r 25 Y], .box [.r 25 (wvs (List.replicate 25 0))], .box [.r 5 q.1.2.2]]⟩,
    fun q => 5 - q.1.1, [], _, ⟨(0, 0, wvs (List.replicate 5 0)), Nat.zero_le _, rfl, rfl⟩, rfl, ?_, ?_⟩
  · conv => cbv
    simp
  rintro ⟨⟨x, xi, S⟩, hq⟩
  have hx5 : x ≤ 5 := hq.1
  have hxi : xi = (x : Int) := hq.2.1
  have hS : S = wvs (sumsR L x) := hq.2.2
  dsimp only
  conv => cbv
  refine ⟨fun h => ?_, fun h => ?_⟩
  · have hxlt : x < 5 := by have := cLt har (b := 5) h; omega
    obtain ⟨z0, hz0⟩ : ∃ z : Int, z = ((g L x).toNat : Int) := ⟨_, rfl⟩
    obtain ⟨z1, hz1⟩ : ∃ z : Int, z = ((g L (x + 5)).toNat : Int) := ⟨_, rfl⟩
    obtain ⟨z2, hz2⟩ : ∃ z : Int, z = ((g L (x + 10)).toNat : Int) := ⟨_, rfl⟩
    obtain ⟨z3, hz3⟩ : ∃ z : Int, z = ((g L (x + 15)).toNat : Int) := ⟨_, rfl⟩
    obtain ⟨z4, hz4⟩ : ∃ z : Int, z = ((g L (x + 20)).toNat : Int) := ⟨_, rfl⟩
    obtain ⟨e1, he1⟩ : ∃ z : Int, z = ((x + 5 : Nat) : Int) := ⟨_, rfl⟩
    obtain ⟨e2, he2⟩ : ∃ z : Int, z = ((x + 10 : Nat) : Int) := ⟨_, rfl⟩
    obtain ⟨e3, he3⟩ : ∃ z : Int, z = ((x + 15 : Nat) : Int) := ⟨_, rfl⟩
    obtain ⟨e4, he4⟩ : ∃ z : Int, z = ((x + 20 : Nat) : Int) := ⟨_, rfl⟩
    have hn0 : ar.nat xi = x := natOf har hxi
    have t0 : Y[ar.nat xi]? = some (.int .u64 z0) := by rw [hn0, hY, hz0]; exact g_get (by omega)
    have t1 : Y[ar.nat e1]? = some (.int .u64 z1) := by rw [natOf har he1, hY, hz1]; exact g_get (by omega)
    have t2 : Y[ar.nat e2]? = some (.int .u64 z2) := by rw [natOf har he2, hY, hz2]; exact g_get (by omega)
    have t3 : Y[ar.nat e3]? = some (.int .u64 z3) := by rw [natOf har he3, hY, hz3]; exact g_get (by omega)
    have t4 : Y[ar.nat e4]? = some (.int .u64 z4) := by rw [natOf har he4, hY, hz4]; exact g_get (by omega)
    have b0 : 0 ≤ xi ∧ xi < 25 := by omega
    have b1 : 0 ≤ e1 ∧ e1 < 25 := by omega
    have b2 : 0 ≤ e2 ∧ e2 < 25 := by omega
    have b3 : 0 ≤ e3 ∧ e3 < 25 := by omega
    have b4 : 0 ≤ e4 ∧ e4 < 25 := by omega
    have bs : 0 ≤ xi ∧ xi < 5 := by omega
    have l0 : ar.nat xi < 5 := by rw [hn0]; omega
    have hS2 : ar.set S (ar.nat xi) (.int .u64 (ar.ib .xor .u64 (ar.ib .xor .u64 (ar.ib .xor .u64 (ar.ib .xor .u64 z0 z1) z2) z3) z4)) = wvs (sumsR L (x + 1)) := by
      rw [setIs har, hn0, iIs har, iIs har, iIs har, iIs har, hz0, hz1, hz2, hz3, hz4, kxor, kxor, kxor, kxor, hS, sumsR, ← wvs_set, sumR]; rfl
    conv => cbv
    refine ⟨by rw [har]; kernel_rfl, ?_⟩
    refine callA hΓ hxi (y := 0) rfl (by omega) (by omega) (show _ = x by omega) hxi ?_
    conv => cbv
    refine ⟨fun _ => b0, _, t0, ?_⟩
    conv => cbv
    refine callA hΓ hxi (y := 1) rfl (by omega) (by omega) (show _ = x + 5 by omega) he1 ?_
    conv => cbv
    refine ⟨fun _ => b1, _, t1, ?_⟩
    conv => cbv
    refine callA hΓ hxi (y := 2) rfl (by omega) (by omega) (show _ = x + 10 by omega) he2 ?_
    conv => cbv
    refine ⟨fun _ => b2, _, t2, ?_⟩
    conv => cbv
    refine callA hΓ hxi (y := 3) rfl (by omega) (by omega) (show _ = x + 15 by omega) he3 ?_
    conv => cbv
    refine ⟨fun _ => b3, _, t3, ?_⟩
    conv => cbv
    refine callA hΓ hxi (y := 4) rfl (by omega) (by omega) (show _ = x + 20 by omega) he4 ?_
    conv => cbv
    refine ⟨fun _ => b4, _, t4, ?_⟩
    conv => cbv
    refine ⟨fun _ => bs, fun _ => l0, ?_⟩
    refine ⟨⟨(x + 1, ar.ib .add .i64 xi 1, _), hxlt, iSucc har hxi (by omega), hS2⟩, ?_, ?_⟩
    · dsimp only
      conv => cbv
      simp
    · show 5 - (x + 1) < 5 - x
      omega
  have hxe : x = 5 := by have := cNlt har (b := 5) h; omega
  rw [hxe] at hS
  have hSl := sumsR_len L 5
  conv => cbv
  refine .inr ⟨{ q : Nat × Int × List Value // q.1 ≤ 5 ∧ q.2.1 = q.1 ∧ q.2.2 = wvs (colAt L (sumsR L 5) (5 * q.1)) },
    fun q => ⟨mk 70 [(1, .s (.ptr 0 0)), (2, .s (.ptr 1 0)), (3, .s (.ptr 2 0)), (5, .s (.ptr 3 0)), (6, pint q.1.2.1)], [.box [.r 25 Y], .box [.r 25 (wvs (List.replicate 25 0))], .box [.r 5 S], .box [.r 25 q.1.2.2]]⟩,
    fun q => 5 - q.1.1, [], _, ⟨(0, 0, Y), Nat.zero_le _, rfl, hY⟩, rfl, ?_, ?_⟩
  · conv => cbv
    simp
  rintro ⟨⟨x, xi, Z⟩, hq⟩
  have hx5 : x ≤ 5 := hq.1
  have hxi : xi = (x : Int) := hq.2.1
  have hZ0 : Z = wvs (colAt L (sumsR L 5) (5 * x)) := hq.2.2
  dsimp only
  conv => cbv
  refine ⟨fun h => ?_, fun h => ?_⟩
  rotate_left
  · have hxe : x = 5 := by have := cNlt har (b := 5) h; omega
    have hk : k [.a [.r 25 Z]] := by rw [hZ0, hxe]; exact hk
    conv => cbv
    exact hk
  have hxlt : x < 5 := by have := cLt har (b := 5) h; omega
  conv => cbv
  refine .inr ⟨{ q : Nat × Int × List Value // q.1 ≤ 5 ∧ q.2.1 = q.1 ∧ q.2.2 = wvs (colAt L (sumsR L 5) (5 * x + q.1)) },
    fun q => ⟨mk 70 [(1, .s (.ptr 0 0)), (2, .s (.ptr 1 0)), (3, .s (.ptr 2 0)), (5, .s (.ptr 3 0)), (6, pint xi), (7, pint q.1.2.1)], [.box [.r 25 Y], .box [.r 25 (wvs (List.replicate 25 0))], .box [.r 5 S], .box [.r 25 q.1.2.2]]⟩,
    fun q => 5 - q.1.1, [], _, ⟨(0, 0, Z), Nat.zero_le _, rfl, hZ0⟩, rfl, ?_, ?_⟩
  · conv => cbv
    simp
  rintro ⟨⟨y, yi, Z⟩, hq⟩
  have hy5 : y ≤ 5 := hq.1
  have hyi : yi = (y : Int) := hq.2.1
  have hZ : Z = wvs (colAt L (sumsR L 5) (5 * x + y)) := hq.2.2
  dsimp only
  conv => cbv
  refine ⟨fun h => ?_, fun h => ?_⟩
  rotate_left
  · have hye : y = 5 := by have := cNlt har (b := 5) h; omega
    rw [hye] at hZ
    conv => cbv
    refine ⟨⟨(x + 1, ar.ib .add .i64 xi 1, Z), hxlt, iSucc har hxi (by omega), hZ⟩, ?_, ?_⟩
    · dsimp only
      conv => cbv
      simp
    · show 5 - (x + 1) < 5 - x
      omega
  have hylt : y < 5 := by have := cLt har (b := 5) h; omega
  have m1 : (5 * x + y) / 5 = x := by omega
  have m2 : (5 * x + y) % 5 = y := by omega
  obtain ⟨e, he⟩ : ∃ z : Int, z = ((x + 5 * y : Nat) : Int) := ⟨_, rfl⟩
  obtain ⟨z0, hz0⟩ : ∃ z : Int, z = ((g L (x + 5 * y)).toNat : Int) := ⟨_, rfl⟩
  obtain ⟨z1, hz1⟩ : ∃ z : Int, z = ((g (sumsR L 5) ((x + 4) % 5)).toNat : Int) := ⟨_, rfl⟩
  obtain ⟨z2, hz2⟩ : ∃ z : Int, z = ((g (sumsR L 5) ((x + 1) % 5)).toNat : Int) := ⟨_, rfl⟩
  obtain ⟨c1, hc1⟩ : ∃ z : Int, z = ((rot (g (sumsR L 5) ((x + 1) % 5)) 1).toNat : Int) := ⟨_, rfl⟩
  have h4 : ar.ib .rem .i64 (ar.ib .add .i64 xi 4) 5 = (((x + 4) % 5 : Nat) : Int) := iRemL har (m := 5) (iAddL har hxi (m := 4) rfl (by omega))
  have h1 : ar.ib .rem .i64 (ar.ib .add .i64 xi 1) 5 = (((x + 1) % 5 : Nat) : Int) := iRemL har (m := 5) (iAddL har hxi (m := 1) rfl (by omega))
  have hn4 := natOf har h4
  have hn1 := natOf har h1
  have hne : ar.nat e = x + 5 * y := natOf har he
  have t0 : Y[ar.nat e]? = some (.int .u64 z0) := by rw [hne, hY, hz0]; exact g_get (by omega)
  have t1 : S[ar.nat (ar.ib .rem .i64 (ar.ib .add .i64 xi 4) 5)]? = some (.int .u64 z1) := by rw [hn4, hS, hz1]; exact g_get (by omega)
  have t2 : S[ar.nat (ar.ib .rem .i64 (ar.ib .add .i64 xi 1) 5)]? = some (.int .u64 z2) := by rw [hn1, hS, hz2]; exact g_get (by omega)
  have b0 : 0 ≤ e ∧ e < 25 := by omega
  have b4 : 0 ≤ ar.ib .rem .i64 (ar.ib .add .i64 xi 4) 5 ∧ ar.ib .rem .i64 (ar.ib .add .i64 xi 4) 5 < 5 := by rw [h4]; omega
  have b1 : 0 ≤ ar.ib .rem .i64 (ar.ib .add .i64 xi 1) 5 ∧ ar.ib .rem .i64 (ar.ib .add .i64 xi 1) 5 < 5 := by rw [h1]; omega
  have l0 : ar.nat e < 25 := by rw [hne]; omega
  have hZ2 : ar.set Z (ar.nat e) (.int .u64 (ar.ib .xor .u64 (ar.ib .xor .u64 z0 z1) c1)) = wvs (colAt L (sumsR L 5) (5 * x + (y + 1))) := by
    rw [setIs har, hne, iIs har, iIs har, hz0, hz1, hc1, kxor, kxor, hZ, ← Nat.add_assoc, colAt, ← wvs_set, colV, m1, m2]; rfl
  conv => cbv
  refine ⟨by rw [har]; kernel_rfl, ?_⟩
  refine ⟨fun _ => b4, _, t1, ?_⟩
  conv => cbv
  trace_state
  refine ⟨fun _ => b1, _, t2, ?_⟩
  conv => cbv
  refine callA hΓ hxi hyi (by omega) (by omega) (show _ = x + 5 * y by omega) he ?_
  conv => cbv
  refine callA hΓ hxi hyi (by omega) (by omega) (show _ = x + 5 * y by omega) he ?_
  conv => cbv
  refine ⟨fun _ => b0, _, t0, ?_⟩
  conv => cbv
  refine callT hΓ hz2 (s := 1) rfl (by omega) hc1 ?_
  conv => cbv
  refine ⟨fun _ => b0, fun _ => l0, ?_⟩
  refine ⟨⟨(y + 1, ar.ib .add .i64 yi 1, _), hylt, iSucc har hyi (by omega), hZ2⟩, ?_, ?_⟩
  · dsimp only
    conv => cbv
    simp
  · show 5 - (y + 1) < 5 - y
    omega

theorem refPermute_sound : Sound Tryd.prog 93 fun args k => ∃ L : List W6, args = [.a [.r 25 (wvs L)]] ∧ L.length = 25 ∧ k [.a [.r 25 (wvs (perm L))]] := by
  refine Sound.of_body tt_ok ent_ok Tryd.func93 rfl ?_
  rintro ar har Γ hΓ args k ⟨L, hargs, hL, hk⟩
  obtain ⟨X, hX⟩ : ∃ X, X = wvs L := ⟨_, rfl⟩
  rw [← hX] at hargs
  subst hargs
  conv => cbv
  refine .inr ⟨{ q : Nat × Int × List Value // q.1 ≤ 24 ∧ q.2.1 = q.1 ∧ q.2.2 = wvs (permAt L q.1) },
    fun q => ⟨mk 24 [(2, .s (.ptr 1 0)), (3, .s (.ptr 2 0)), (4, pint q.1.2.1)], [.gone, .box [.r 25 (wvs (List.replicate 25 0))], .box [.r 25 q.1.2.2]]⟩,
    fun q => 24 - q.1.1, [], _, ⟨(0, 0, X), Nat.zero_le _, rfl, hX⟩, rfl, ?_, ?_⟩
  · conv => cbv
    simp
  rintro ⟨⟨p, pi, Y⟩, hq⟩
  have hp : p ≤ 24 := hq.1
  have hpi : pi = (p : Int) := hq.2.1
  have hY : Y = wvs (permAt L p) := hq.2.2
  have hPl : (permAt L p).length = 25 := by rw [permAt_len, hL]
  obtain ⟨A, hA⟩ : ∃ A, A = permAt L p := ⟨_, rfl⟩
  rw [← hA] at hY hPl
  dsimp only
  conv => cbv
  refine ⟨fun h => ?_, fun h => ?_⟩
  rotate_left
  · have g' := cNlt har (b := 24) h
    have hpe : p = 24 := by omega
    have hk : k [.a [.r 25 Y]] := by rw [hY, hA, hpe]; exact hk
    conv => cbv
    exact hk
  have hlt : p < 24 := by have := cLt har (b := 24) h; omega
  obtain ⟨C1, hC1⟩ : ∃ X, X = colR A := ⟨_, rfl⟩
  obtain ⟨C2, hC2⟩ : ∃ X, X = movR C1 := ⟨_, rfl⟩
  obtain ⟨C3, hC3⟩ : ∃ X, X = mixR C2 := ⟨_, rfl⟩
  have l1 : C1.length = 25 := by rw [hC1, colR, colAt_len, hPl]
  have l2 : C2.length = 25 := by rw [hC2, movR, movAt_len]
  have l3 : C3.length = 25 := by rw [hC3, mixR, mixAt_len]
  obtain ⟨Y1, hY1⟩ : ∃ X, X = wvs C1 := ⟨_, rfl⟩
  obtain ⟨Y2, hY2⟩ : ∃ X, X = wvs C2 := ⟨_, rfl⟩
  obtain ⟨f0, hf0⟩ : ∃ z : Int, z = ((g C3 0).toNat : Int) := ⟨_, rfl⟩
  obtain ⟨Zt, hZt⟩ : ∃ t, wvs C3 = .int .u64 f0 :: t := by
    have hz0 : (wvs C3)[(0 : Nat)]? = some (.int .u64 f0) := by rw [hf0]; exact g_get (by omega)
    cases hw : wvs C3 with
    | nil => rw [hw] at hz0; cases hz0
    | cons w t => rw [hw] at hz0; simp at hz0; exact ⟨t, by rw [hz0]⟩
  have k1 : ∀ (Γ : Ctx) (d : Nat) (k : List PR → Prop) (Q : Prop), Γ = ctx Tryd.prog d → k [.a [.r 25 Y1]] → Γ.g 116 [.a [.r 25 Y]] k ∨ Q := fun Γ d k Q hΓ hk => call_by hΓ refColumns_sound ⟨A, by rw [hY], hPl, by rw [← hC1, ← hY1]; exact hk⟩
  have k2 : ∀ (Γ : Ctx) (d : Nat) (k : List PR → Prop) (Q : Prop), Γ = ctx Tryd.prog d → k [.a [.r 25 Y2]] → Γ.g 117 [.a [.r 25 Y1]] k ∨ Q := fun Γ d k Q hΓ hk => call_by hΓ refMoved_sound ⟨C1, by rw [hY1], l1, by rw [← hC2, ← hY2]; exact hk⟩
  have k3 : ∀ (Γ : Ctx) (d : Nat) (k : List PR → Prop) (Q : Prop), Γ = ctx Tryd.prog d → k [.a [.r 25 (.int .u64 f0 :: Zt)]] → Γ.g 118 [.a [.r 25 Y2]] k ∨ Q := fun Γ d k Q hΓ hk => call_by hΓ refMixed_sound ⟨C2, by rw [hY2], l2, by rw [← hC3, hZt]; exact hk⟩
  obtain ⟨NZ, hNZ⟩ : ∃ z : Int, z = ((nums.getD p 0).toNat : Int) := ⟨_, rfl⟩
  have hnu : (wvs nums)[pi.toNat]? = some (.int .u64 NZ) := get_at hpi (by rw [hNZ]; exact g_get (l := nums) (i := p) (by exact hlt))
  have hfin : .int .u64 (ar.ib .xor .u64 f0 NZ) :: Zt = wvs (permAt L (p + 1)) := by
    rw [iIs har, hf0, hNZ, kxor, permAt, ← hA, rnd_same hPl, rndR, ← hC1, ← hC2, ← hC3, ← wvs_set, hZt]; rfl
  conv => cbv
  refine k1 _ _ _ _ hΓ ?_
  conv => cbv
  refine k2 _ _ _ _ hΓ ?_
  conv => cbv
  refine k3 _ _ _ _ hΓ ?_
  conv => cbv
  refine ⟨by rw [har]; kernel_rfl, ?_⟩
  refine ⟨_, by omega, hnu, ?_⟩
  conv => cbv
  refine ⟨⟨(p + 1, ar.ib .add .i64 pi 1, .int .u64 (ar.ib .xor .u64 f0 NZ) :: Zt), hlt, iSucc har hpi (by omega), hfin⟩, ?_, ?_⟩
  · dsimp only
    conv => cbv
    simp
  · show 24 - (p + 1) < 24 - p
    omega
end Go.Eng
