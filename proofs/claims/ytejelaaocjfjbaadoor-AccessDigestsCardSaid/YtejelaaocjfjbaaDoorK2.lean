/-
  keccak.Permute. No condition.
-/
import Derived.Test.YtejelaaocjfjbaaDoorK1
namespace Go.Eng
open Go Go.Proofs
set_option maxRecDepth 100000
set_option maxHeartbeats 8000000
set_option linter.unusedVariables false

theorem ivs_get {l : List Nat} {i : Nat} (h : i < l.length) : (ivs l)[i]? = some (.int .i64 (l.getD i 0 : Nat)) := by
  rw [ivs, List.getElem?_map, List.getD_eq_getElem?_getD, List.getElem?_eq_getElem h]; rfl
theorem goes_get {n : Nat} (h : n < 25) : (ivs goes)[n]? = some (.int .i64 (goe n : Nat)) := by
  rw [ivs_get (by exact h)]
  have : ∀ n, n < 25 → goes.getD n 0 = goe n := by decide
  rw [this n h]
theorem turs_get {n : Nat} (h : n < 25) : (ivs turs)[n]? = some (.int .i64 (tur n : Nat)) := ivs_get (by exact h)
theorem tur_lt : ∀ n, n < 25 → tur n < 64 := by decide
theorem goe_lt : ∀ n, n < 25 → goe n < 25 := by decide
theorem iRemL {ar : Ar} (har : ar = arS) {a : Int} {n m : Nat} (h : a = (n : Int)) : ar.ib .rem .i64 a (m : Int) = ((n % m : Nat) : Int) := by rw [h]; exact iRem har
theorem iAddL {ar : Ar} (har : ar = arS) {a b : Int} {n m : Nat} (h : a = (n : Int)) (h2 : b = (m : Int)) (hs : n + m < 1000) : ar.ib .add .i64 a b = ((n + m : Nat) : Int) := by rw [iAdd har (by omega)]; omega
theorem get_at {ws : List Value} {i : Int} {n : Nat} {v : Value} (h : i = (n : Int)) (hg : ws[n]? = some v) : ws[i.toNat]? = some v := by rw [h]; simpa using hg

theorem permute_sound : Sound Tryd.prog 132 fun args k => ∃ L : List W6, args = [.a [.r 25 (wvs L)]] ∧ L.length = 25 ∧ k [.a [.r 25 (wvs (perm L))]] := by
  refine Sound.of_body tt_ok ent_ok Tryd.func132 rfl ?_
  rintro ar har Γ hΓ args k ⟨L, hargs, hL, hk⟩
  obtain ⟨X, hX⟩ : ∃ X, X = wvs L := ⟨_, rfl⟩
  obtain ⟨TU, hTU⟩ : ∃ X, X = ivs turs := ⟨_, rfl⟩
  obtain ⟨GO, hGO⟩ : ∃ X, X = ivs goes := ⟨_, rfl⟩
  obtain ⟨NU, hNU⟩ : ∃ X, X = wvs nums := ⟨_, rfl⟩
  have callW : ∀ (Γ : Ctx) (d : Nat) (k : List PR → Prop) (Q : Prop), Γ = ctx Tryd.prog d → k [.a [.r 25 TU], .a [.r 25 GO]] → Γ.g 139 [] k ∨ Q := fun Γ d k Q hΓ hk => call_by hΓ ways_sound ⟨rfl, by rw [← hTU, ← hGO]; exact hk⟩
  have callN : ∀ (Γ : Ctx) (d : Nat) (k : List PR → Prop) (Q : Prop), Γ = ctx Tryd.prog d → k [.a [.r 24 NU]] → Γ.g 140 [] k ∨ Q := fun Γ d k Q hΓ hk => call_by hΓ numbers_sound ⟨rfl, by rw [← hNU]; exact hk⟩
  rw [← hX] at hargs
  subst hargs
  conv => cbv
  refine callW _ _ _ _ hΓ ?_
  conv => cbv
  refine callN _ _ _ _ hΓ ?_
  conv => cbv
  refine .inr ⟨{ q : Nat × Int × List Value // q.1 ≤ 24 ∧ q.2.1 = q.1 ∧ q.2.2 = wvs (permAt L q.1) },
    fun q => ⟨mk 106 [(1, .s (.ptr 0 0)), (2, .s (.ptr 1 0)), (3, .s (.ptr 2 0)), (4, .s (.ptr 3 0)), (19, .a [.r 24 NU]), (20, pint q.1.2.1)], [.box [.r 25 q.1.2.2], .box [.r 25 (wvs (List.replicate 25 0))], .box [.r 25 TU], .box [.r 25 GO]]⟩,
    fun q => 24 - q.1.1, [], _, ⟨(0, 0, X), Nat.zero_le _, rfl, hX⟩, rfl, ?_, ?_⟩
  · conv => cbv
    simp
  rintro ⟨⟨p, pi, Y⟩, hq⟩
  have hp : p ≤ 24 := hq.1
  have hpi : pi = (p : Int) := hq.2.1
  have hY : Y = wvs (permAt L p) := hq.2.2
  have hPl : (permAt L p).length = 25 := by rw [permAt_len, hL]
  obtain ⟨A, hA⟩ : ∃ A, A = permAt L p := ⟨_, rfl⟩
  rw [← hA] at hY hPl
  dsimp only
  conv => cbv
  refine ⟨fun h => ?_, fun h => ?_⟩
  rotate_left
  · have g' := cNlt har (b := 24) h
    have hpe : p = 24 := by omega
    have hk : k [.a [.r 25 Y]] := by rw [hY, hA, hpe]; exact hk
    conv => cbv
    exact hk
  have hlt : p < 24 := by have := cLt har (b := 24) h; omega
  obtain ⟨NZ, hNZ⟩ : ∃ z : Int, z = ((nums.getD p 0).toNat : Int) := ⟨_, rfl⟩
  have hnu : NU[pi.toNat]? = some (.int .u64 NZ) := get_at hpi (by rw [hNU, hNZ]; exact g_get (l := nums) (i := p) (by exact hlt))
  conv => cbv
  refine ⟨_, fun _ => ⟨by omega, hnu⟩, ?_⟩
  conv => cbv
  refine .inr ⟨{ q : Nat × Int × List Value // q.1 ≤ 25 ∧ q.2.1 = q.1 ∧ q.2.2 = wvs (sumsAt A q.1) },
    fun q => ⟨mk 106 [(1, .s (.ptr 0 0)), (2, .s (.ptr 1 0)), (3, .s (.ptr 2 0)), (4, .s (.ptr 3 0)), (19, .a [.r 24 NU]), (20, pint pi), (6, .s (.p (.v (.int .u64 NZ)))), (7, .s (.ptr 4 0)), (23, .a [.r 25 Y]), (24, pint q.1.2.1)], [.box [.r 25 Y], .box [.r 25 (wvs (List.replicate 25 0))], .box [.r 25 TU], .box [.r 25 GO], .box [.r 5 q.1.2.2]]⟩,
    fun q => 25 - q.1.1, [], _, ⟨(0, 0, wvs (List.replicate 5 0)), Nat.zero_le _, rfl, rfl⟩, rfl, ?_, ?_⟩
  · conv => cbv
    simp
  rintro ⟨⟨r, ri, S⟩, hq⟩
  have hr : r ≤ 25 := hq.1
  have hri : ri = (r : Int) := hq.2.1
  have hS : S = wvs (sumsAt A r) := hq.2.2
  dsimp only
  conv => cbv
  refine ⟨fun h => ?_, fun h => ?_⟩
  · have hlt : r < 25 := by have := cLt har (b := 25) h; omega
    obtain ⟨z, hz⟩ : ∃ z : Int, z = ((g A r).toNat : Int) := ⟨_, rfl⟩
    obtain ⟨u, hu⟩ : ∃ z : Int, z = ((g (sumsAt A r) (r % 5)).toNat : Int) := ⟨_, rfl⟩
    have hy : Y[ri.toNat]? = some (.int .u64 z) := get_at hri (by rw [hY, hz]; exact g_get (by omega))
    have hm : ar.ib .rem .i64 ri 5 = ((r % 5 : Nat) : Int) := iRemL har (m := 5) hri
    have hsl := sumsAt_len A r
    have hnat : ar.nat (ar.ib .rem .i64 ri 5) = r % 5 := natOf har hm
    have hs : S[ar.nat (ar.ib .rem .i64 ri 5)]? = some (.int .u64 u) := by rw [hnat, hS, hu]; exact g_get (by omega)
    have hb5 : 0 ≤ ar.ib .rem .i64 ri 5 ∧ ar.ib .rem .i64 ri 5 < 5 := by rw [hm]; omega
    have hn5 : ar.nat (ar.ib .rem .i64 ri 5) < 5 := by rw [hnat]; omega
    have hS2 : ar.set S (ar.nat (ar.ib .rem .i64 ri 5)) (.int .u64 (ar.ib .xor .u64 u z)) = wvs (sumsAt A (r + 1)) := by
      rw [setIs har, hnat, iIs har, hu, hz, kxor, hS, sumsAt, ← wvs_set]; rfl
    conv => cbv
    refine ⟨_, fun _ => ⟨by omega, hy⟩, ?_⟩
    conv => cbv
    refine ⟨fun _ => hb5, _, hs, ?_⟩
    conv => cbv
    refine ⟨fun _ => hb5, fun _ => hn5, ?_⟩
    refine ⟨⟨(r + 1, ar.ib .add .i64 ri 1, ar.set S (ar.nat (ar.ib .rem .i64 ri 5)) (.int .u64 (ar.ib .xor .u64 u z))), hlt, iSucc har hri (by omega), hS2⟩, ?_, ?_⟩
    · dsimp only
      conv => cbv
      simp
    · show 25 - (r + 1) < 25 - r
      omega
  have hre : r = 25 := by have := cNlt har (b := 25) h; omega
  rw [hre] at hS
  obtain ⟨SS, hSS⟩ : ∃ X, X = sumsAt A 25 := ⟨_, rfl⟩
  rw [← hSS] at hS
  have hSSl : SS.length = 5 := by rw [hSS, sumsAt_len]
  conv => cbv
  refine .inr ⟨{ q : Nat × Int × List Value // q.1 ≤ 25 ∧ q.2.1 = q.1 ∧ q.2.2 = wvs (turnAt A SS q.1) },
    fun q => ⟨mk 106 [(1, .s (.ptr 0 0)), (2, .s (.ptr 1 0)), (3, .s (.ptr 2 0)), (4, .s (.ptr 3 0)), (19, .a [.r 24 NU]), (20, pint pi), (6, .s (.p (.v (.int .u64 NZ)))), (7, .s (.ptr 4 0)), (10, .s (.ptr 5 0)), (36, .a [.r 25 Y]), (37, pint q.1.2.1)], [.box [.r 25 Y], .box [.r 25 (wvs (List.replicate 25 0))], .box [.r 25 TU], .box [.r 25 GO], .box [.r 5 S], .box [.r 25 q.1.2.2]]⟩,
    fun q => 25 - q.1.1, [], _, ⟨(0, 0, wvs (List.replicate 25 0)), Nat.zero_le _, rfl, rfl⟩, rfl, ?_, ?_⟩
  · conv => cbv
    simp
  rintro ⟨⟨r, ri, T⟩, hq⟩
  have hr : r ≤ 25 := hq.1
  have hri : ri = (r : Int) := hq.2.1
  have hT : T = wvs (turnAt A SS r) := hq.2.2
  dsimp only
  conv => cbv
  refine ⟨fun h => ?_, fun h => ?_⟩
  · have hlt : r < 25 := by have := cLt har (b := 25) h; omega
    obtain ⟨z, hz⟩ : ∃ z : Int, z = ((g A r).toNat : Int) := ⟨_, rfl⟩
    obtain ⟨u1, hu1⟩ : ∃ z : Int, z = ((g SS ((r + 4) % 5)).toNat : Int) := ⟨_, rfl⟩
    obtain ⟨u2, hu2⟩ : ∃ z : Int, z = ((g SS ((r + 1) % 5)).toNat : Int) := ⟨_, rfl⟩
    obtain ⟨c1, hc1⟩ : ∃ z : Int, z = ((rot (g SS ((r + 1) % 5)) 1).toNat : Int) := ⟨_, rfl⟩
    obtain ⟨c2, hc2⟩ : ∃ z : Int, z = ((turnV A SS r).toNat : Int) := ⟨_, rfl⟩
    obtain ⟨gr, hgr⟩ : ∃ z : Int, z = (goe r : Int) := ⟨_, rfl⟩
    obtain ⟨tr, htr⟩ : ∃ z : Int, z = (tur r : Int) := ⟨_, rfl⟩
    have hy : Y[ri.toNat]? = some (.int .u64 z) := get_at hri (by rw [hY, hz]; exact g_get (by omega))
    have h4 : ar.ib .rem .i64 (ar.ib .add .i64 ri 4) 5 = (((r + 4) % 5 : Nat) : Int) := iRemL har (m := 5) (iAddL har hri (m := 4) rfl (by omega))
    have h1 : ar.ib .rem .i64 (ar.ib .add .i64 ri 1) 5 = (((r + 1) % 5 : Nat) : Int) := iRemL har (m := 5) (iAddL har hri (m := 1) rfl (by omega))
    have hn4 := natOf har h4
    have hn1 := natOf har h1
    have hs4 : S[ar.nat (ar.ib .rem .i64 (ar.ib .add .i64 ri 4) 5)]? = some (.int .u64 u1) := by rw [hn4, hS, hu1]; exact g_get (by omega)
    have hs1 : S[ar.nat (ar.ib .rem .i64 (ar.ib .add .i64 ri 1) 5)]? = some (.int .u64 u2) := by rw [hn1, hS, hu2]; exact g_get (by omega)
    have hb4 : 0 ≤ ar.ib .rem .i64 (ar.ib .add .i64 ri 4) 5 ∧ ar.ib .rem .i64 (ar.ib .add .i64 ri 4) 5 < 5 := by rw [h4]; omega
    have hb1 : 0 ≤ ar.ib .rem .i64 (ar.ib .add .i64 ri 1) 5 ∧ ar.ib .rem .i64 (ar.ib .add .i64 ri 1) 5 < 5 := by rw [h1]; omega
    have hV : ar.ib .xor .u64 z (ar.ib .xor .u64 u1 c1) = ((g A r ^^^ (g SS ((r + 4) % 5) ^^^ rot (g SS ((r + 1) % 5)) 1)).toNat : Int) := by
      rw [iIs har, iIs har, hz, hu1, hc1, kxor, kxor]
    have callR : ∀ (v : W6) (s : Nat) (a b c : Int) (Γ : Ctx) (d : Nat) (k : List PR → Prop), Γ = ctx Tryd.prog d → a = (v.toNat : Int) → b = (s : Int) → s < 64 → c = ((rot v s).toNat : Int) → k [.s (.v (.int .u64 c))] → Γ.g 141 [.s (.v (.int .u64 a)), .s (.v (.int .i64 b))] k := fun v s a b c Γ d k hΓ ha hb hs hc hk => call_by' hΓ rotl_sound ⟨v, s, by rw [ha, hb]; rfl, hs, by rw [hc] at hk; exact hk⟩
    have hri25 : 0 ≤ ri ∧ ri < 25 := by omega
    have hnr : ar.nat ri = r := natOf har hri
    have hgo : GO[ar.nat ri]? = some (.int .i64 gr) := by rw [hnr, hGO, hgr]; exact goes_get hlt
    have htu : TU[ar.nat ri]? = some (.int .i64 tr) := by rw [hnr, hTU, htr]; exact turs_get hlt
    have hgl := goe_lt r hlt
    have hg25 : 0 ≤ gr ∧ gr < 25 := by omega
    have hng : ar.nat gr = goe r := natOf har hgr
    have hng25 : ar.nat gr < 25 := by rw [hng]; exact hgl
    have hT2 : ar.set T (ar.nat gr) (.int .u64 c2) = wvs (turnAt A SS (r + 1)) := by
      rw [setIs har, hng, hc2, hT, turnAt, ← wvs_set]; rfl
    conv => cbv
    refine ⟨_, fun _ => ⟨by omega, hy⟩, ?_⟩
    conv => cbv
    refine ⟨by rw [har]; kernel_rfl, ?_⟩
    refine ⟨fun _ => hb4, _, hs4, ?_⟩
    conv => cbv
    refine ⟨fun _ => hb1, _, hs1, ?_⟩
    conv => cbv
    refine callR _ 1 _ _ c1 _ _ _ hΓ hu2 rfl (by omega) hc1 ?_
    conv => cbv
    refine ⟨by rw [har]; kernel_rfl, ?_⟩
    refine ⟨fun _ => hri25, _, hgo, ?_⟩
    conv => cbv
    refine ⟨fun _ => hri25, _, htu, ?_⟩
    conv => cbv
    refine callR _ (tur r) _ _ c2 _ _ _ hΓ hV htr (tur_lt r hlt) hc2 ?_
    conv => cbv
    refine ⟨fun _ => hg25, fun _ => hng25, ?_⟩
    refine ⟨⟨(r + 1, ar.ib .add .i64 ri 1, ar.set T (ar.nat gr) (.int .u64 c2)), hlt, iSucc har hri (by omega), hT2⟩, ?_, ?_⟩
    · dsimp only
      conv => cbv
      simp
    · show 25 - (r + 1) < 25 - r
      omega
  have hre : r = 25 := by have := cNlt har (b := 25) h; omega
  rw [hre] at hT
  obtain ⟨TT, hTT⟩ : ∃ X, X = turnAt A SS 25 := ⟨_, rfl⟩
  rw [← hTT] at hT
  have hTTl : TT.length = 25 := by rw [hTT, turnAt_len]
  conv => cbv
  refine .inr ⟨{ q : Nat × Int × List Value // q.1 ≤ 5 ∧ q.2.1 = ((5 * q.1 : Nat) : Int) ∧ q.2.2 = wvs (chiAt A TT (5 * q.1)) },
    fun q => ⟨mk 106 [(1, .s (.ptr 0 0)), (2, .s (.ptr 1 0)), (3, .s (.ptr 2 0)), (4, .s (.ptr 3 0)), (19, .a [.r 24 NU]), (20, pint pi), (6, .s (.p (.v (.int .u64 NZ)))), (10, .s (.ptr 5 0)), (13, pint q.1.2.1)], [.box [.r 25 q.1.2.2], .box [.r 25 (wvs (List.replicate 25 0))], .box [.r 25 TU], .box [.r 25 GO], .box [.r 5 S], .box [.r 25 T]]⟩,
    fun q => 5 - q.1.1, [], _, ⟨(0, 0, Y), Nat.zero_le _, rfl, hY⟩, rfl, ?_, ?_⟩
  · conv => cbv
    simp
  rintro ⟨⟨y, yi, Z⟩, hq⟩
  have hy5 : y ≤ 5 := hq.1
  have hyi : yi = ((5 * y : Nat) : Int) := hq.2.1
  have hZ0 : Z = wvs (chiAt A TT (5 * y)) := hq.2.2
  dsimp only
  conv => cbv
  refine ⟨fun h => ?_, fun h => ?_⟩
  · have hylt : y < 5 := by have := cLt har (b := 25) h; omega
    conv => cbv
    refine .inr ⟨{ q : Nat × Int × List Value // q.1 ≤ 5 ∧ q.2.1 = q.1 ∧ q.2.2 = wvs (chiAt A TT (5 * y + q.1)) },
      fun q => ⟨mk 106 [(1, .s (.ptr 0 0)), (2, .s (.ptr 1 0)), (3, .s (.ptr 2 0)), (4, .s (.ptr 3 0)), (19, .a [.r 24 NU]), (20, pint pi), (6, .s (.p (.v (.int .u64 NZ)))), (10, .s (.ptr 5 0)), (13, pint yi), (69, pint q.1.2.1)], [.box [.r 25 q.1.2.2], .box [.r 25 (wvs (List.replicate 25 0))], .box [.r 25 TU], .box [.r 25 GO], .box [.r 5 S], .box [.r 25 T]]⟩,
      fun q => 5 - q.1.1, [], _, ⟨(0, 0, Z), Nat.zero_le _, rfl, hZ0⟩, rfl, ?_, ?_⟩
    · conv => cbv
      simp
    rintro ⟨⟨x, xi, Z⟩, hq⟩
    have hx5 : x ≤ 5 := hq.1
    have hxi : xi = (x : Int) := hq.2.1
    have hZ : Z = wvs (chiAt A TT (5 * y + x)) := hq.2.2
    dsimp only
    conv => cbv
    refine ⟨fun h => ?_, fun h => ?_⟩
    · have hxlt : x < 5 := by have := cLt har (b := 5) h; omega
      obtain ⟨z0, hz0⟩ : ∃ z : Int, z = ((g TT (5 * y + x)).toNat : Int) := ⟨_, rfl⟩
      obtain ⟨z1, hz1⟩ : ∃ z : Int, z = ((g TT (5 * y + (x + 1) % 5)).toNat : Int) := ⟨_, rfl⟩
      obtain ⟨z2, hz2⟩ : ∃ z : Int, z = ((g TT (5 * y + (x + 2) % 5)).toNat : Int) := ⟨_, rfl⟩
      have i0 : ar.ib .add .i64 yi xi = ((5 * y + x : Nat) : Int) := iAddL har hyi hxi (by omega)
      have i1 : ar.ib .add .i64 yi (ar.ib .rem .i64 (ar.ib .add .i64 xi 1) 5) = ((5 * y + (x + 1) % 5 : Nat) : Int) := iAddL har hyi (iRemL har (m := 5) (iAddL har hxi (m := 1) rfl (by omega))) (by omega)
      have i2 : ar.ib .add .i64 yi (ar.ib .rem .i64 (ar.ib .add .i64 xi 2) 5) = ((5 * y + (x + 2) % 5 : Nat) : Int) := iAddL har hyi (iRemL har (m := 5) (iAddL har hxi (m := 2) rfl (by omega))) (by omega)
      have n0 := natOf har i0
      have n1 := natOf har i1
      have n2 := natOf har i2
      have t0 : T[ar.nat (ar.ib .add .i64 yi xi)]? = some (.int .u64 z0) := by rw [n0, hT, hz0]; exact g_get (by omega)
      have t1 : T[ar.nat (ar.ib .add .i64 yi (ar.ib .rem .i64 (ar.ib .add .i64 xi 1) 5))]? = some (.int .u64 z1) := by rw [n1, hT, hz1]; exact g_get (by omega)
      have t2 : T[ar.nat (ar.ib .add .i64 yi (ar.ib .rem .i64 (ar.ib .add .i64 xi 2) 5))]? = some (.int .u64 z2) := by rw [n2, hT, hz2]; exact g_get (by omega)
      have b0 : 0 ≤ ar.ib .add .i64 yi xi ∧ ar.ib .add .i64 yi xi < 25 := by rw [i0]; omega
      have b1 : 0 ≤ ar.ib .add .i64 yi (ar.ib .rem .i64 (ar.ib .add .i64 xi 1) 5) ∧ ar.ib .add .i64 yi (ar.ib .rem .i64 (ar.ib .add .i64 xi 1) 5) < 25 := by rw [i1]; omega
      have b2 : 0 ≤ ar.ib .add .i64 yi (ar.ib .rem .i64 (ar.ib .add .i64 xi 2) 5) ∧ ar.ib .add .i64 yi (ar.ib .rem .i64 (ar.ib .add .i64 xi 2) 5) < 25 := by rw [i2]; omega
      have l0 : ar.nat (ar.ib .add .i64 yi xi) < 25 := by rw [n0]; omega
      have hZ2 : ar.set Z (ar.nat (ar.ib .add .i64 yi xi)) (.int .u64 (ar.ib .xor .u64 z0 (ar.ib .and .u64 (ar.ub .xor .u64 z1) z2))) = wvs (chiAt A TT (5 * y + (x + 1))) := by
        have e : ar.ub .xor .u64 z1 = intU .xor .u64 z1 := by rw [har]; rfl
        have m1 : 5 * ((5 * y + x) / 5) = 5 * y := by omega
        have m2 : (5 * y + x) % 5 = x := by omega
        rw [setIs har, n0, iIs har, iIs har, e, hz0, hz1, hz2, knot, kand, kxor, hZ, ← Nat.add_assoc, chiAt, ← wvs_set, chiV, m1, m2]; rfl
      conv => cbv
      refine ⟨by rw [har]; kernel_rfl, ?_⟩
      refine ⟨fun _ => b0, _, t0, ?_⟩
      conv => cbv
      refine ⟨fun _ => b1, _, t1, ?_⟩
      conv => cbv
      refine ⟨fun _ => b2, _, t2, ?_⟩
      conv => cbv
      refine ⟨fun _ => b0, fun _ => l0, ?_⟩
      refine ⟨⟨(x + 1, ar.ib .add .i64 xi 1, ar.set Z (ar.nat (ar.ib .add .i64 yi xi)) (.int .u64 (ar.ib .xor .u64 z0 (ar.ib .and .u64 (ar.ub .xor .u64 z1) z2)))), hxlt, iSucc har hxi (by omega), hZ2⟩, ?_, ?_⟩
      · dsimp only
        conv => cbv
        simp
      · show 5 - (x + 1) < 5 - x
        omega
    have hxe : x = 5 := by have := cNlt har (b := 5) h; omega
    rw [hxe] at hZ
    conv => cbv
    refine ⟨⟨(y + 1, ar.ib .add .i64 yi 5, Z), hylt, by show ar.ib .add .i64 yi 5 = ((5 * (y + 1) : Nat) : Int); rw [iAddL har (b := 5) hyi (m := 5) rfl (by omega)]; omega, hZ⟩, ?_, ?_⟩
    · dsimp only
      conv => cbv
      simp
    · show 5 - (y + 1) < 5 - y
      omega
  have hye : y = 5 := by have := cNlt har (b := 25) h; omega
  rw [hye] at hZ0
  obtain ⟨CC, hCC⟩ : ∃ X, X = chiAt A TT 25 := ⟨_, rfl⟩
  rw [← hCC] at hZ0
  have hCCl : CC.length = 25 := by rw [hCC, chiAt_len, hPl]
  obtain ⟨f0, hf0⟩ : ∃ z : Int, z = ((g CC 0).toNat : Int) := ⟨_, rfl⟩
  have hz0 : Z[(0 : Nat)]? = some (.int .u64 f0) := by rw [hZ0, hf0]; exact g_get (by omega)
  have hfin : Z.set 0 (.int .u64 (ar.ib .xor .u64 f0 NZ)) = wvs (permAt L (p + 1)) := by
    rw [iIs har, hf0, hNZ, kxor, hZ0, permAt, ← hA, rnd, ← hSS, ← hTT, ← hCC, ← wvs_set]; rfl
  obtain ⟨Zt, hZt⟩ : ∃ t, Z = .int .u64 f0 :: t := by
    cases Z with
    | nil => cases hz0
    | cons w t => simp at hz0; exact ⟨t, by rw [hz0]⟩
  subst hZt
  conv => cbv
  refine ⟨⟨(p + 1, ar.ib .add .i64 pi 1, .int .u64 (ar.ib .xor .u64 f0 NZ) :: Zt), hlt, iSucc har hpi (by omega), hfin⟩, ?_, ?_⟩
  · dsimp only
    conv => cbv
    simp
  · show 24 - (p + 1) < 24 - p
    omega
end Go.Eng
