/-
  waybillref02: joined, filled, Digest, Sum. Condition: at most 2^30 bytes.
-/
import Derived.Test.YtejelaaocjfjbaaDoorK3
import Derived.Test.YtejelaaocjfjbaaDoorK4
import Derived.Test.YtejelaaocjfjbaaDoorD0
namespace Go.Eng
open Go Go.Proofs
set_option maxRecDepth 100000
set_option maxHeartbeats 8000000
set_option linter.unusedVariables false

/-- A text among texts. -/
structure Tex where
  d : List Int
  s : List (List PS)
def Tex.row (t : Tex) : List PS := [.c (.sl (t.d.map b8') t.s)]
def join : List Tex → List Int
  | [] => []
  | t :: l => t.d ++ join l
theorem join_append (a b : List Tex) : join (a ++ b) = join a ++ join b := by
  induction a with
  | nil => rfl
  | cons t a ih => simp only [List.cons_append, join, ih, List.append_assoc]
theorem join_take {l : List Tex} {p : Nat} {t : Tex} (h : l[p]? = some t) : join (l.take (p + 1)) = join (l.take p) ++ t.d := by
  rw [List.take_add_one, h, join_append]; simp [join]
theorem join_le (l : List Tex) (p : Nat) : (join (l.take p)).length ≤ (join l).length := by
  have := join_append (l.take p) (l.drop p)
  rw [List.take_append_drop] at this
  rw [this, List.length_append]; omega
theorem b8'_row (d : List Int) : ∀ y ∈ d.map b8', rlen y = 1 := fun y hy => by
  rw [List.mem_map] at hy; obtain ⟨x, _, rfl⟩ := hy; rfl

theorem refJoined_sound : Sound Tryd.prog 66 fun args k => ∃ (ps : List Tex) (s : List (List PS)), args = [.s (.sl (ps.map Tex.row) s)] ∧ ps.length ≤ 2 ^ 30 ∧ (join ps).length ≤ 2 ^ 30 ∧ k [.s (.sl ((join ps).map b8') [])] := by
  refine Sound.of_body tt_ok ent_ok Tryd.func66 rfl ?_
  rintro ar har Γ hΓ args k ⟨ps, s, hargs, hl, hj, hk⟩
  obtain ⟨X, hX⟩ : ∃ X, X = ps.map Tex.row := ⟨_, rfl⟩
  have hXl : ar.len X = (ps.length : Int) := by rw [lenIs har, hX, List.length_map]
  rw [← hX] at hargs
  subst hargs
  conv => cbv
  refine .inr ⟨{ q : Nat × Int × List (List PS) // q.1 ≤ ps.length ∧ q.2.1 = q.1 ∧ q.2.2 = (join (ps.take q.1)).map b8' },
    fun q => ⟨mk 18 [(0, .s (.p (.sl X s))), (3, .s (.own 0)), (4, pint q.1.2.1)], [.arr q.1.2.2 5 1 1 true]⟩,
    fun q => ps.length - q.1.1, [.slot 3 5], _, ⟨(0, 0, []), Nat.zero_le _, rfl, rfl⟩, rfl, ?_, ?_⟩
  · conv => cbv
    simp
  rintro ⟨⟨p, pi, Z⟩, hq⟩
  have hp : p ≤ ps.length := hq.1
  have hpi : pi = (p : Int) := hq.2.1
  have hZ : Z = (join (ps.take p)).map b8' := hq.2.2
  have hjl := join_le ps p
  have hZl : Z.length = (join (ps.take p)).length := by rw [hZ, List.length_map]
  dsimp only
  conv => cbv
  refine ⟨fun h => ?_, fun h => ?_⟩
  · have g' := cLt har (b := ar.len X) h
    have hlt : p < ps.length := by omega
    obtain ⟨t, ht⟩ : ∃ t, ps[p]? = some t := ⟨_, List.getElem?_eq_getElem hlt⟩
    have hjt := join_take ht
    have hjl2 := join_le ps (p + 1)
    obtain ⟨d, sd⟩ := t
    obtain ⟨D, hD⟩ : ∃ D, D = d.map b8' := ⟨_, rfl⟩
    have hDl : D.length = d.length := by rw [hD, List.length_map]
    have rx : X[pi.toNat]? = some [.c (.sl D sd)] := by rw [hX, hpi]; simp [ht, Tex.row, hD]
    have hZ2 : ar.app Z D = (join (ps.take (p + 1))).map b8' := by rw [appIs har, hjt, List.map_append, hZ, hD]
    have s1 : (Z.length + D.length) * 1 ≤ 140737488355328 ∧ ∀ y ∈ D, rlen y = 1 := ⟨by rw [hjt, List.length_append] at hjl2; simp only at hjl2; omega, by rw [hD]; exact b8'_row d⟩
    conv => cbv
    refine ⟨_, by omega, rx, rfl, ?_⟩
    conv => cbv
    refine ⟨fun _ => s1, ?_⟩
    refine ⟨⟨(p + 1, ar.ib .add .i64 pi 1, ar.app Z D), hlt, iSucc har hpi (by omega), hZ2⟩, ?_, ?_⟩
    · dsimp only
      conv => cbv
      simp
    · show ps.length - (p + 1) < ps.length - p
      omega
  have g' := cNlt har (b := ar.len X) h
  have hpe : p = ps.length := by omega
  have hk : k [.s (.sl Z [])] := by rw [hZ, hpe, List.take_length]; exact hk
  conv => cbv
  exact hk

theorem filled_of (d : List Int) : (d ++ 1 :: List.replicate (135 - d.length % 136) 0).set (d.length + (135 - d.length % 136)) (if d.length % 136 = 135 then 129 else 128) = filled d := by
  have hr : d.length % 136 < 136 := Nat.mod_lt _ (by omega)
  rw [filled, List.set_append_right _ _ (by omega), Nat.add_sub_cancel_left]
  congr 1
  unfold tailB
  split
  · rename_i e; rw [e]; rfl
  · rename_i e
    obtain ⟨m, hm⟩ : ∃ m, 135 - d.length % 136 = m + 1 := ⟨134 - d.length % 136, by omega⟩
    rw [hm, show 134 - d.length % 136 = m by omega, List.replicate_succ', List.set_cons_succ, List.set_append_right _ _ (by simp)]
    simp

theorem refFilled_sound : Sound Tryd.prog 92 fun args k => ∃ (d : List Int) (s : List (List PS)), args = [.s (.sl (d.map b8') s), .s (.v (.int .u8 1))] ∧ d.length ≤ 2 ^ 30 ∧ k [.s (.sl ((filled d).map b8') [])] := by
  refine Sound.of_body tt_ok ent_ok Tryd.func92 rfl ?_
  rintro ar har Γ hΓ args k ⟨d, s, hargs, hl, hk⟩
  obtain ⟨D, hD⟩ : ∃ D, D = d.map b8' := ⟨_, rfl⟩
  have hDl : D.length = d.length := by rw [hD, List.length_map]
  have hap : ar.app [] D = D := by rw [appIs har]; rfl
  have hr : d.length % 136 < 136 := Nat.mod_lt _ (by omega)
  have s1 : (0 + D.length) * 1 ≤ 140737488355328 ∧ ∀ y ∈ D, rlen y = 1 := ⟨by omega, by rw [hD]; exact b8'_row d⟩
  have s2 : ((ar.app [] D).length + 1) * 1 ≤ 140737488355328 ∧ ∀ y ∈ [[PS.c (.v (.int .u8 1))]], rlen y = 1 := ⟨by rw [hap]; omega, by simp [rlen, PS.len]⟩
  have hD1 : ar.app (ar.app [] D) [[PS.c (.v (.int .u8 1))]] = (d ++ 1 :: List.replicate 0 0).map b8' := by rw [hap, appIs har, hD]; simp [b8']
  rw [← hD] at hargs
  subst hargs
  conv => cbv
  refine ⟨fun _ => s1, fun _ => s2, ?_⟩
  refine .inr ⟨{ q : Nat × List (List PS) // q.1 ≤ 135 - d.length % 136 ∧ q.2 = (d ++ 1 :: List.replicate q.1 0).map b8' },
    fun q => ⟨mk 33 [(5, .s (.own 0))], [.arr q.1.2 5 1 1 true]⟩,
    fun q => 135 - q.1.1, [], _, ⟨(0, ar.app (ar.app [] D) [[PS.c (.v (.int .u8 1))]]), Nat.zero_le _, hD1⟩, rfl, ?_, ?_⟩
  · conv => cbv
    simp
  rintro ⟨⟨j, Z⟩, hq⟩
  have hj : j ≤ 135 - d.length % 136 := hq.1
  have hZ : Z = (d ++ 1 :: List.replicate j 0).map b8' := hq.2
  have hZn : Z.length = d.length + 1 + j := by rw [hZ]; simp; omega
  have hZl : ar.len Z = ((d.length + 1 + j : Nat) : Int) := by rw [lenIs har, hZn]
  have hrem : ar.ib .rem .i64 (ar.len Z) 136 = (((d.length + 1 + j) % 136 : Nat) : Int) := iRemL har (m := 136) hZl
  dsimp only
  conv => cbv
  refine ⟨fun h => ?_, fun h => ?_⟩
  · have g' := cNe har (a := ar.ib .rem .i64 (ar.len Z) 136) (b := 0) h
    rw [hrem] at g'
    have hj2 : j + 1 ≤ 135 - d.length % 136 := by omega
    have hZ2 : ar.app Z [[PS.c (.v (.int .u8 0))]] = (d ++ 1 :: List.replicate (j + 1) 0).map b8' := by
      rw [appIs har, hZ, List.replicate_succ']; simp [b8']
    have s3 : (Z.length + 1) * 1 ≤ 140737488355328 ∧ ∀ y ∈ [[PS.c (.v (.int .u8 0))]], rlen y = 1 := ⟨by omega, by simp [rlen, PS.len]⟩
    conv => cbv
    refine ⟨fun _ => s3, ?_⟩
    refine ⟨⟨(j + 1, ar.app Z [[PS.c (.v (.int .u8 0))]]), hj2, hZ2⟩, ?_, ?_⟩
    · dsimp only
      conv => cbv
      simp
    · show 135 - (j + 1) < 135 - j
      omega
  have g' := cNne har (a := ar.ib .rem .i64 (ar.len Z) 136) (b := 0) h
  rw [hrem] at g'
  have hje : j = 135 - d.length % 136 := by
    have g2 : (d.length + 1 + j) % 136 = 0 := by omega
    clear hrem g' hZl
    omega
  obtain ⟨z, hz⟩ : ∃ z : Int, z = (if d.length % 136 = 135 then 1 else 0) := ⟨_, rfl⟩
  have hix : ar.ib .sub .i64 (ar.len Z) 1 = ((d.length + j : Nat) : Int) := by rw [hZl, iSub har (by omega)]; omega
  have hin := natOf har hix
  have hb : 0 ≤ ar.ib .sub .i64 (ar.len Z) 1 ∧ ar.ib .sub .i64 (ar.len Z) 1 < (Z.length : Int) := by rw [hix, hZn]; omega
  have rx : Z[ar.nat (ar.ib .sub .i64 (ar.len Z) 1)]? = some [.c (.v (.int .u8 z))] := by
    rw [hin, hZ, List.getElem?_map, List.getElem?_append_right (by omega), Nat.add_sub_cancel_left, hje]
    by_cases e : d.length % 136 = 135
    · rw [hz, if_pos e, e]; rfl
    · obtain ⟨m, hm⟩ : ∃ m, 135 - d.length % 136 = m + 1 := ⟨134 - d.length % 136, by omega⟩
      rw [hz, if_neg e, hm, List.getElem?_cons_succ, List.getElem?_replicate, if_pos (by omega)]; rfl
  have hor : ar.ib .or .u8 z 128 = if d.length % 136 = 135 then 129 else 128 := by
    rw [iIs har, hz]
    split <;> decide
  have hfin : ar.setx Z (ar.nat (ar.ib .sub .i64 (ar.len Z) 1)) [.c (.v (.int .u8 (ar.ib .or .u8 z 128)))] = (filled d).map b8' := by
    rw [setxIs har, hin, hor, hZ, hje, ← filled_of d, List.map_set]; rfl
  have hl1 : ar.nat (ar.ib .sub .i64 (ar.len Z) 1) < Z.length ∧ rlen [PS.c (.v (.int .u8 (ar.ib .or .u8 z 128)))] = 1 := ⟨by rw [hin]; omega, rfl⟩
  rw [← hfin] at hk
  conv => cbv
  refine ⟨fun _ => hb, _, rx, ?_⟩
  conv => cbv
  refine ⟨fun _ => hb, fun _ => hl1, ?_⟩
  conv => cbv
  exact hk

theorem refDigest_sound : Sound Tryd.prog 65 fun args k => ∃ (d : List Int) (s : List (List PS)), args = [.s (.sl (d.map b8') s), .s (.v (.int .u8 1))] ∧ d.length ≤ 2 ^ 30 ∧ (∀ b ∈ d, 0 ≤ b ∧ b < 256) ∧ k [.a [.r 32 (u8s (kec d))]] := by
  refine Sound.of_body tt_ok ent_ok Tryd.func65 rfl ?_
  rintro ar har Γ hΓ args k ⟨d, s, hargs, hl, hby, hk⟩
  obtain ⟨D, hD⟩ : ∃ D, D = d.map b8' := ⟨_, rfl⟩
  obtain ⟨M, hM⟩ : ∃ M, M = filled d := ⟨_, rfl⟩
  obtain ⟨nb, hnb⟩ : ∃ n, n = d.length / 136 + 1 := ⟨_, rfl⟩
  obtain ⟨R, hR⟩ : ∃ R, R = M.map b8' := ⟨_, rfl⟩
  have hMl : M.length = 136 * nb := by rw [hM, hnb, filled_len]
  have hRl : ar.len R = ((136 * nb : Nat) : Int) := by rw [lenIs har, hR, List.length_map, hMl]
  have hMb : ∀ b ∈ M, 0 ≤ b ∧ b < 256 := fun b hb => by
    rw [hM, filled] at hb
    rcases List.mem_append.1 hb with hb | hb
    · exact hby b hb
    · unfold tailB at hb
      split at hb
      · simp at hb; omega
      · simp at hb; omega
  have hkec : kec d = sq (absN M nb) := by rw [kec, ← hM, ← hnb]
  have callF : ∀ (Γ : Ctx) (d' : Nat) (k : List PR → Prop) (Q : Prop), Γ = ctx Tryd.prog d' → k [.s (.sl R [])] → Γ.g 92 [.s (.sl D s), .s (.v (.int .u8 1))] k ∨ Q := fun Γ d' k Q hΓ hk => call_by hΓ refFilled_sound ⟨d, s, by rw [hD], hl, by rw [← hM, ← hR]; exact hk⟩
  rw [hkec] at hk
  rw [← hD] at hargs
  subst hargs
  conv => cbv
  refine callF _ _ _ _ hΓ ?_
  conv => cbv
  refine .inr ⟨{ q : Nat × Int × List Value // q.1 ≤ nb ∧ q.2.1 = ((136 * q.1 : Nat) : Int) ∧ q.2.2 = wvs (absN M q.1) },
    fun q => ⟨mk 63 [(4, .s (.ptr 0 0)), (5, .s (.p (.sl R []))), (6, .s (.ptr 1 0)), (7, pint q.1.2.1)], [.box [.r 32 (u8s (List.replicate 32 0))], .box [.r 25 q.1.2.2]]⟩,
    fun q => nb - q.1.1, [], _, ⟨(0, 0, wvs (List.replicate 25 0)), Nat.zero_le _, rfl, rfl⟩, rfl, ?_, ?_⟩
  · conv => cbv
    simp
  rintro ⟨⟨i, fi, Y⟩, hq⟩
  have hi : i ≤ nb := hq.1
  have hfi : fi = ((136 * i : Nat) : Int) := hq.2.1
  have hY0 : Y = wvs (absN M i) := hq.2.2
  dsimp only
  conv => cbv
  refine ⟨fun h => ?_, fun h => ?_⟩
  · have g' := cLt har (b := ar.len R) h
    have hin : i < nb := by omega
    obtain ⟨B, hB⟩ : ∃ B, B = (M.drop (136 * i)).take 136 := ⟨_, rfl⟩
    have hBl : B.length = 136 := by rw [hB, List.length_take, List.length_drop]; omega
    conv => cbv
    refine .inr ⟨{ q : Nat × Int × List Value // q.1 ≤ 136 ∧ q.2.1 = q.1 ∧ q.2.2 = wvs (xorIn (absN M i) B q.1) },
      fun q => ⟨mk 63 [(4, .s (.ptr 0 0)), (5, .s (.p (.sl R []))), (6, .s (.ptr 1 0)), (7, pint fi), (8, pint q.1.2.1)], [.box [.r 32 (u8s (List.replicate 32 0))], .box [.r 25 q.1.2.2]]⟩,
      fun q => 136 - q.1.1, [], _, ⟨(0, 0, Y), Nat.zero_le _, rfl, hY0⟩, rfl, ?_, ?_⟩
    · conv => cbv
      simp
    rintro ⟨⟨r, ri, Y⟩, hq⟩
    have hr : r ≤ 136 := hq.1
    have hri : ri = (r : Int) := hq.2.1
    have hY : Y = wvs (xorIn (absN M i) B r) := hq.2.2
    have hYn : (xorIn (absN M i) B r).length = 25 := by rw [xorIn_len, absN_len]
    dsimp only
    conv => cbv
    refine ⟨fun h => ?_, fun h => ?_⟩
    · have hlt : r < 136 := by have := cLt har (b := 136) h; omega
      obtain ⟨x, hx⟩ : ∃ x, M[136 * i + r]? = some x := ⟨_, List.getElem?_eq_getElem (by omega)⟩
      have hxb := hMb x (List.mem_of_getElem? hx)
      have hxB : B.getD r 0 = x := by
        rw [hB, List.getD_eq_getElem?_getD, List.getElem?_take, if_pos hlt, List.getElem?_drop, hx]; rfl
      obtain ⟨z, hz⟩ : ∃ z : Int, z = ((g (xorIn (absN M i) B r) (r / 8)).toNat : Int) := ⟨_, rfl⟩
      have q8 : ar.ib .quo .i64 ri 8 = ((r / 8 : Nat) : Int) := by rw [hri]; exact iQuo har (b := 8) (by omega)
      have qn : ar.nat (ar.ib .quo .i64 ri 8) = r / 8 := natOf har q8
      have hz1 : Y[ar.nat (ar.ib .quo .i64 ri 8)]? = some (.int .u64 z) := by rw [qn, hY, hz]; exact g_get (by omega)
      have b8q : 0 ≤ ar.ib .quo .i64 ri 8 ∧ ar.ib .quo .i64 ri 8 < 25 := by rw [q8]; omega
      have l8q : ar.nat (ar.ib .quo .i64 ri 8) < 25 := by rw [qn]; omega
      have ix : ar.ib .add .i64 fi ri = ((136 * i + r : Nat) : Int) := by rw [iAdd har (by omega)]; omega
      have rx : R[(ar.ib .add .i64 fi ri).toNat]? = some [.c (.v (.int .u8 x))] := by rw [ix, Int.toNat_natCast, hR, List.getElem?_map, hx]; rfl
      have ix0 : 0 ≤ ar.ib .add .i64 fi ri := by rw [ix]; omega
      have sh : ar.cv .u64 (ar.ib .mul .i64 8 (ar.ib .rem .i64 ri 8)) = ((8 * (r % 8) : Nat) : Int) := by
        have e1 : ar.ib .rem .i64 ri 8 = ((r % 8 : Nat) : Int) := iRemL har (m := 8) hri
        have e2 : ar.ib .mul .i64 8 (ar.ib .rem .i64 ri 8) = ((8 * (r % 8) : Nat) : Int) := by rw [e1]; exact iMulL har (n := 8) rfl rfl (by omega)
        rw [cvU64 har (by omega), e2]
      have sh0 : 0 ≤ ar.cv .u64 (ar.ib .mul .i64 8 (ar.ib .rem .i64 ri 8)) := by rw [sh]; omega
      have hY2 : ar.set Y (ar.nat (ar.ib .quo .i64 ri 8)) (.int .u64 (ar.ib .xor .u64 z (ar.ib .shl .u64 (ar.cv .u64 x) (ar.cv .u64 (ar.ib .mul .i64 8 (ar.ib .rem .i64 ri 8)))))) = wvs (xorIn (absN M i) B (r + 1)) := by
        have e3 : ar.cv .u64 x = ((b2w x).toNat : Int) := by rw [cvU64 har (by omega)]; exact b2w_int hxb
        rw [setIs har, qn, sh, e3, iIs har, iIs har, hz, kshl _ (by omega), kxor, hY, xorIn, ← wvs_set, xorV, hxB]; rfl
      conv => cbv
      refine ⟨by rw [har]; kernel_rfl, ?_⟩
      refine ⟨fun _ => b8q, _, hz1, ?_⟩
      conv => cbv
      refine ⟨_, ix0, rx, rfl, ?_⟩
      conv => cbv
      refine ⟨fun _ => sh0, fun _ => b8q, fun _ => l8q, ?_⟩
      refine ⟨⟨(r + 1, ar.ib .add .i64 ri 1, _), hlt, iSucc har hri (by omega), hY2⟩, ?_, ?_⟩
      · dsimp only
        conv => cbv
        simp
      · show 136 - (r + 1) < 136 - r
        omega
    have hre : r = 136 := by have := cNlt har (b := 136) h; omega
    rw [hre] at hY hYn
    obtain ⟨Y2, hY2⟩ : ∃ Y, Y = wvs (absN M (i + 1)) := ⟨_, rfl⟩
    have callP : ∀ (Γ : Ctx) (d' : Nat) (k : List PR → Prop) (Q : Prop), Γ = ctx Tryd.prog d' → k [.a [.r 25 Y2]] → Γ.g 93 [.a [.r 25 Y]] k ∨ Q := fun Γ d' k Q hΓ hk => call_by hΓ refPermute_sound ⟨_, by rw [hY], hYn, by rw [hB, ← absN_step, ← hY2]; exact hk⟩
    conv => cbv
    refine callP _ _ _ _ hΓ ?_
    conv => cbv
    refine ⟨⟨(i + 1, ar.ib .add .i64 fi 136, Y2), hin, by show ar.ib .add .i64 fi 136 = ((136 * (i + 1) : Nat) : Int); rw [iAdd har (by omega)]; omega, hY2⟩, ?_, ?_⟩
    · dsimp only
      conv => cbv
      simp
    · show nb - (i + 1) < nb - i
      omega
  have g' := cNlt har (b := ar.len R) h
  have hie : i = nb := by omega
  rw [hie] at hY0
  obtain ⟨L, hL⟩ : ∃ L, L = absN M nb := ⟨_, rfl⟩
  have hLl : L.length = 25 := by rw [hL, absN_len]
  rw [← hL] at hY0 hk
  conv => cbv
  refine .inr ⟨{ q : Nat × Int × List Value // q.1 ≤ 32 ∧ q.2.1 = q.1 ∧ q.2.2 = u8s (outAt L q.1) },
    fun q => ⟨mk 63 [(4, .s (.ptr 0 0)), (6, .s (.ptr 1 0)), (9, .s (.ptr 2 0)), (10, pint q.1.2.1)], [.box [.r 32 (u8s (List.replicate 32 0))], .box [.r 25 Y], .box [.r 32 q.1.2.2]]⟩,
    fun q => 32 - q.1.1, [], _, ⟨(0, 0, u8s (List.replicate 32 0)), Nat.zero_le _, rfl, rfl⟩, rfl, ?_, ?_⟩
  · conv => cbv
    simp
  rintro ⟨⟨r, ri, H⟩, hq⟩
  have hr : r ≤ 32 := hq.1
  have hri : ri = (r : Int) := hq.2.1
  have hH : H = u8s (outAt L r) := hq.2.2
  dsimp only
  conv => cbv
  refine ⟨fun h => ?_, fun h => ?_⟩
  · have hlt : r < 32 := by have := cLt har (b := 32) h; omega
    obtain ⟨z, hz⟩ : ∃ z : Int, z = ((g L (r / 8)).toNat : Int) := ⟨_, rfl⟩
    have q8 : ar.ib .quo .i64 ri 8 = ((r / 8 : Nat) : Int) := by rw [hri]; exact iQuo har (b := 8) (by omega)
    have qn : ar.nat (ar.ib .quo .i64 ri 8) = r / 8 := natOf har q8
    have hz1 : Y[ar.nat (ar.ib .quo .i64 ri 8)]? = some (.int .u64 z) := by rw [qn, hY0, hz]; exact g_get (by omega)
    have b8q : 0 ≤ ar.ib .quo .i64 ri 8 ∧ ar.ib .quo .i64 ri 8 < 25 := by rw [q8]; omega
    have sh : ar.cv .u64 (ar.ib .mul .i64 8 (ar.ib .rem .i64 ri 8)) = ((8 * (r % 8) : Nat) : Int) := by
      have e1 : ar.ib .rem .i64 ri 8 = ((r % 8 : Nat) : Int) := iRemL har (m := 8) hri
      have e2 : ar.ib .mul .i64 8 (ar.ib .rem .i64 ri 8) = ((8 * (r % 8) : Nat) : Int) := by rw [e1]; exact iMulL har (n := 8) rfl rfl (by omega)
      rw [cvU64 har (by omega), e2]
    have sh0 : 0 ≤ ar.cv .u64 (ar.ib .mul .i64 8 (ar.ib .rem .i64 ri 8)) := by rw [sh]; omega
    have nr : ar.nat ri = r := natOf har hri
    have br : 0 ≤ ri ∧ ri < 32 := by omega
    have lr : ar.nat ri < 32 := by rw [nr]; exact hlt
    have hH2 : ar.set H (ar.nat ri) (.int .u8 (ar.cv .u8 (ar.ib .shr .u64 z (ar.cv .u64 (ar.ib .mul .i64 8 (ar.ib .rem .i64 ri 8)))))) = u8s (outAt L (r + 1)) := by
      rw [setIs har, nr, sh, iIs har, hz, kshr _ (by omega), cvU8 har, hH, outAt, u8s, u8s, List.map_set, sqV]; rfl
    conv => cbv
    refine ⟨fun _ => b8q, _, hz1, ?_⟩
    conv => cbv
    refine ⟨fun _ => sh0, fun _ => br, fun _ => lr, ?_⟩
    refine ⟨⟨(r + 1, ar.ib .add .i64 ri 1, _), hlt, iSucc har hri (by omega), hH2⟩, ?_, ?_⟩
    · dsimp only
      conv => cbv
      simp
    · show 32 - (r + 1) < 32 - r
      omega
  have hre : r = 32 := by have := cNlt har (b := 32) h; omega
  have hk : k [.a [.r 32 H]] := by rw [hH, hre, outAt_sq]; exact hk
  conv => cbv
  exact hk

theorem refSum_sound : Sound Tryd.prog 42 fun args k => ∃ (ps : List Tex) (s : List (List PS)), args = [.s (.sl (ps.map Tex.row) s)] ∧ ps.length ≤ 2 ^ 30 ∧ (join ps).length ≤ 2 ^ 30 ∧ (∀ b ∈ join ps, 0 ≤ b ∧ b < 256) ∧ k [.a [.r 32 (u8s (kec (join ps)))]] := by
  refine Sound.of_body tt_ok ent_ok Tryd.func42 rfl ?_
  rintro ar har Γ hΓ args k ⟨ps, s, hargs, hl, hj, hb, hk⟩
  obtain ⟨X, hX⟩ : ∃ X, X = ps.map Tex.row := ⟨_, rfl⟩
  obtain ⟨J, hJ⟩ : ∃ X, X = (join ps).map b8' := ⟨_, rfl⟩
  obtain ⟨H, hH⟩ : ∃ X, X = u8s (kec (join ps)) := ⟨_, rfl⟩
  rw [← hH] at hk
  have c1 : ∀ (Γ : Ctx) (d' : Nat) (k : List PR → Prop) (Q : Prop), Γ = ctx Tryd.prog d' → k [.s (.sl J [])] → Γ.g 66 [.s (.sl X s)] k ∨ Q := fun Γ d' k Q hΓ hk => call_by hΓ refJoined_sound ⟨ps, s, by rw [hX], hl, hj, by rw [← hJ]; exact hk⟩
  have c2 : ∀ (Γ : Ctx) (d' : Nat) (k : List PR → Prop) (Q : Prop), Γ = ctx Tryd.prog d' → k [.a [.r 32 H]] → Γ.g 65 [.s (.sl J []), .s (.v (.int .u8 1))] k ∨ Q := fun Γ d' k Q hΓ hk => call_by hΓ refDigest_sound ⟨join ps, [], by rw [hJ], hj, hb, by rw [← hH]; exact hk⟩
  rw [← hX] at hargs
  subst hargs
  conv => cbv
  refine c1 _ _ _ _ hΓ ?_
  conv => cbv
  refine c2 _ _ _ _ hΓ ?_
  conv => cbv
  exact hk
end Go.Eng
