/-
  keccak.digest, Sum: the sponge's methods walked in place. Condition: at most 2^30 bytes.
-/
import Derived.Test.YtejelaaocjfjbaaDoorK5
namespace Go.Eng
open Go Go.Proofs
set_option maxRecDepth 100000
set_option maxHeartbeats 16000000
set_option linter.unusedVariables false

theorem call_inV {P : Program} {ar : Ar} {Γ : Ctx} {d : Nat} {f : FuncId} {fn : Func} {c : Code} {st : List Value → Func → St} {κ : List Value → Func → Kt} (har : ar = arS) (hΓ : Γ = ctx P (d + 1)) (hf : P.funcs[f]? = some fn) (hb : fn.body = some c)
    (h : ∀ Γ', Γ' = ctx P d → ∀ vs, vcC ar Γ' c (st vs fn) (κ vs fn)) : ∃ fn c, Γ.bd f fn c ∧ ∀ vs, Γ.inl c (st vs fn) (κ vs fn) := by
  subst hΓ; subst har
  exact ⟨fn, c, ⟨hf, hb⟩, fun vs => h _ rfl vs⟩
theorem valsOf_b8 (d : List Int) : valsOf (d.map b8') = u8s d := by
  rw [valsOf, List.map_map]; rfl
theorem cpw_u8s (P x : List Int) (h : Nat) (hp : P.length = 136) (hh : h ≤ 136) : arS.cpw (u8s P) h (x.map b8') = u8s (P.take h ++ (x.take (136 - h) ++ P.drop (h + (x.take (136 - h)).length))) := by
  simp only [arS]
  rw [valsOf_b8]
  simp only [u8s, List.length_map, hp, List.map_append, List.map_take, List.map_drop, List.length_take, Nat.min_comm]

theorem digest_sound : Sound Tryd.prog 60 fun args k => ∃ (ps : List Tex) (s : List (List PS)), args = [.s (.v (.int .i64 0)), .s (.sl (ps.map Tex.row) s)] ∧ ps.length ≤ 2 ^ 30 ∧ (join ps).length ≤ 2 ^ 30 ∧ (∀ b ∈ join ps, 0 ≤ b ∧ b < 256) ∧ (∀ t ∈ ps, ∀ z ∈ t.s, rlen z = 1) ∧ k [.a [.r 32 (u8s (kec (join ps)))]] := by
  refine Sound.of_bodyL [true, false] 2 tt_ok ent_ok Tryd.func60 rfl ?_
  rintro ar har Γ hΓ args k ⟨ps, s, hargs, hl, hj, hbt, hsl, hk⟩
  obtain ⟨X, hX⟩ : ∃ X, X = ps.map Tex.row := ⟨_, rfl⟩
  have hXl : ar.len X = (ps.length : Int) := by rw [lenIs har, hX, List.length_map]
  rw [← hX] at hargs
  subst hargs
  conv => cbv
  refine .inr ⟨{ q : Nat × Int × List Value × List Value × Int × Int // q.1 ≤ ps.length ∧ q.2.1 = q.1 ∧ ∃ L P h, Held (join (ps.take q.1)) L P h ∧ q.2.2.1 = wvs L ∧ q.2.2.2.1 = u8s P ∧ q.2.2.2.2.1 = (h : Int) ∧ (∀ b ∈ P, 0 ≤ b ∧ b < 256) },
    fun q => ⟨mk 20 [(4, .s (.ptr 0 0)), (5, .s (.ptr 1 0)), (10, .s (.p (.sl X s))), (11, pint (ar.len X)), (12, pint q.1.2.1)], [.box [.r 32 (u8s (List.replicate 32 0))], .box [.c (.lit .i64 0), .r 25 q.1.2.2.1, .r 136 q.1.2.2.2.1, .c (.p (.v (.int .i64 q.1.2.2.2.2.1))), .c (.p (.v (.int .i64 q.1.2.2.2.2.2)))]]⟩,
    fun q => ps.length - q.1.1, [], _, ⟨(0, 0, wvs (List.replicate 25 0), u8s (List.replicate 136 0), 0, 0), Nat.zero_le _, rfl, _, _, _, Held.start (List.replicate 136 0) (by simp), rfl, rfl, rfl, fun b hb => by rw [List.mem_replicate] at hb; omega⟩, rfl, ?_, ?_⟩
  · conv => cbv
    simp
  rintro ⟨⟨p, pi, YV, PV, hv, lv⟩, hq⟩
  have hp : p ≤ ps.length := hq.1
  have hpi : pi = (p : Int) := hq.2.1
  obtain ⟨L, P, hh, HH, hYV, hPV, hhv, hPb⟩ : ∃ L P h, Held (join (ps.take p)) L P h ∧ YV = wvs L ∧ PV = u8s P ∧ hv = (h : Int) ∧ (∀ b ∈ P, 0 ≤ b ∧ b < 256) := hq.2.2
  dsimp only
  conv => cbv
  refine ⟨fun h => ?_, fun h => ?_⟩
  · have g' := cLt har (b := ar.len X) h
    have hlt : p < ps.length := by omega
    obtain ⟨t, ht⟩ : ∃ t, ps[p]? = some t := ⟨_, List.getElem?_eq_getElem hlt⟩
    have hjt := join_take ht
    have hjl := join_le ps (p + 1)
    have hsp := hsl t (List.mem_of_getElem? ht)
    obtain ⟨d, sd⟩ := t
    obtain ⟨D, hD⟩ : ∃ D, D = d.map b8' := ⟨_, rfl⟩
    have rx : X[pi.toNat]? = some [.c (.sl D sd)] := by rw [hX, hpi]; simp [ht, Tex.row, hD]
    have hdl : d.length ≤ 2 ^ 30 := by rw [hjt, List.length_append] at hjl; simp only at hjl; omega
    have hdb : ∀ b ∈ d, 0 ≤ b ∧ b < 256 := fun b hb => hbt b (by
      have := join_append (ps.take (p + 1)) (ps.drop (p + 1))
      rw [List.take_append_drop] at this
      rw [this, hjt]; simp [hb])
    conv => cbv
    refine ⟨_, by omega, rx, rfl, ?_⟩
    conv => cbv
    refine call_inV har hΓ Tryd.func85 rfl fun Γ1 hΓ1 vs1 => ?_
    conv => cbv
    refine .inr ⟨{ q : Nat × List (List PS) × List Value × List Value × Int // q.1 ≤ d.length ∧ q.2.1 = (d.drop q.1).map b8' ∧ ∃ L P h, Held (join (ps.take p) ++ d.take q.1) L P h ∧ q.2.2.1 = wvs L ∧ q.2.2.2.1 = u8s P ∧ q.2.2.2.2 = (h : Int) ∧ (∀ b ∈ P, 0 ≤ b ∧ b < 256) },
      fun q => ⟨mk 47 [(0, .s (.ptr 1 0)), (1, .s (.p (.sl q.1.2.1 sd)))], [.box [.r 32 (u8s (List.replicate 32 0))], .box [.c (.lit .i64 0), .r 25 q.1.2.2.1, .r 136 q.1.2.2.2.1, .c (.p (.v (.int .i64 q.1.2.2.2.2))), .c (.p (.v (.int .i64 (ar.ib .add .i64 lv (ar.len D)))))], .hid (mk 20 [(4, .s (.ptr 0 0)), (5, .s (.ptr 1 0)), (10, .s (.p (.sl X s))), (11, pint (ar.len X)), (12, pint pi)]) vs1]⟩,
      fun q => d.length - q.1.1, [], _, ⟨(0, D, YV, PV, hv), Nat.zero_le _, by rw [List.drop_zero]; exact hD, L, P, hh, by rw [List.take_zero, List.append_nil]; exact HH, hYV, hPV, hhv, hPb⟩, rfl, ?_, ?_⟩
    · conv => cbv
      simp
    rintro ⟨⟨c, Dr, YV, PV, hv⟩, hq⟩
    have hc : c ≤ d.length := hq.1
    have hDr : Dr = (d.drop c).map b8' := hq.2.1
    obtain ⟨L, P, hh, HH, hYV, hPV, hhv, hPb⟩ : ∃ L P h, Held (join (ps.take p) ++ d.take c) L P h ∧ YV = wvs L ∧ PV = u8s P ∧ hv = (h : Int) ∧ (∀ b ∈ P, 0 ≤ b ∧ b < 256) := hq.2.2
    have hDn : Dr.length = d.length - c := by rw [hDr]; simp
    have hDl : ar.len Dr = ((d.length - c : Nat) : Int) := by rw [lenIs har, hDn]
    have hPl := HH.p
    have hh136 : hh < 136 := by rw [HH.e]; exact Nat.mod_lt _ (by omega)
    dsimp only
    conv => cbv
    refine ⟨fun h => ?_, fun h => ?_⟩
    · have g' := cGt har (a := ar.len Dr) (b := 0) h
      have b1 : 0 ≤ hv ∧ hv ≤ 136 := by omega
      have b2 : ∀ y ∈ Dr, ∃ w, y = [PS.c (.v w)] := fun y hy => by
        rw [hDr, List.mem_map] at hy; obtain ⟨x, _, rfl⟩ := hy; exact ⟨_, rfl⟩
      obtain ⟨n, hn⟩ : ∃ n, n = min (d.length - c) (136 - hh) := ⟨_, rfl⟩
      have hmn : (ar.cpn Dr 136 (ar.nat hv)) = (n : Int) := by
        rw [natOf har hhv, har]
        show ((min Dr.length (136 - hh) : Nat) : Int) = _
        rw [hDn, hn]
      have b3 : 0 ≤ (ar.cpn Dr 136 (ar.nat hv)) ∧ (ar.cpn Dr 136 (ar.nat hv)) ≤ Dr.length ∧ (∀ z ∈ Dr, rlen z = 1) ∧ (∀ z ∈ sd, rlen z = 1) := ⟨by omega, by rw [hDn]; omega, fun z hz => by
        obtain ⟨w, rfl⟩ := b2 z hz; rfl, hsp⟩
      obtain ⟨P1, hP1⟩ : ∃ Q, Q = P.take hh ++ ((d.drop c).take n ++ P.drop (hh + ((d.drop c).take n).length)) := ⟨_, rfl⟩
      have hxn : ((d.drop c).take n).length = n := by rw [List.length_take, List.length_drop]; omega
      have htk : (d.drop c).take (136 - hh) = (d.drop c).take n := by
        rw [List.take_eq_take_iff, List.length_drop]; omega
      have hWP : (ar.cpw PV (ar.nat hv) Dr) = u8s P1 := by
        rw [natOf har hhv, har, hPV, hDr, cpw_u8s P _ hh hPl (by omega), htk, hP1]
      have hD2d : (ar.frm Dr (ar.nat (ar.cpn Dr 136 (ar.nat hv)))) = (d.drop (c + n)).map b8' := by
        rw [natOf har hmn, frmIs har, hDr, ← List.map_drop, List.drop_drop]
      have hh2n : (ar.ib .add .i64 hv (ar.cpn Dr 136 (ar.nat hv))) = ((hh + n : Nat) : Int) := by rw [iAdd har (by omega)]; omega
      have hP1b : ∀ b ∈ P1, 0 ≤ b ∧ b < 256 := fun b hb => by
        rw [hP1] at hb
        rcases List.mem_append.1 hb with hb | hb
        · exact hPb b (List.mem_of_mem_take hb)
        · rcases List.mem_append.1 hb with hb | hb
          · exact hdb b (List.mem_of_mem_drop (List.mem_of_mem_take hb))
          · exact hPb b (List.mem_of_mem_drop hb)
      have htx : join (ps.take p) ++ d.take c ++ (d.drop c).take n = join (ps.take p) ++ d.take (c + n) := by
        rw [List.append_assoc, List.take_add]
      have hn0 : 0 < n := by omega
      conv => cbv
      refine ⟨by rw [har]; kernel_rfl, ?_⟩
      refine ⟨fun _ => b1, fun _ => b2, fun _ => b3, fun hc2 => ?_, fun hc2 => ?_⟩
      · have h136 := cEq har (a := (ar.ib .add .i64 hv (ar.cpn Dr 136 (ar.nat hv)))) (b := 136) hc2
        rw [hh2n] at h136
        have hfull := HH.full ((d.drop c).take n) (by rw [hxn]; omega)
        rw [← hP1, htx] at hfull
        have hL1 : L.length = 25 := by rw [HH.l, absN_len]
        have hP1l : P1.length = 136 := hfull.p
        conv => cbv
        refine call_inV har hΓ1 Tryd.func114 rfl fun Γ2 hΓ2 vsa => ?_
        conv => cbv
        refine .inr ⟨{ q : Nat × Int × List Value // q.1 ≤ 136 ∧ q.2.1 = q.1 ∧ q.2.2 = wvs (xorIn L P1 q.1) },
          fun q => ⟨mk 41 [(0, .s (.ptr 1 0)), (7, .a [.r 136 (ar.cpw PV (ar.nat hv) Dr)]), (8, pint q.1.2.1)], [.box [.r 32 (u8s (List.replicate 32 0))], .box [.c (.lit .i64 0), .r 25 q.1.2.2, .r 136 (ar.cpw PV (ar.nat hv) Dr), .c (.p (.v (.int .i64 (ar.ib .add .i64 hv (ar.cpn Dr 136 (ar.nat hv)))))), .c (.p (.v (.int .i64 (ar.ib .add .i64 lv (ar.len D)))))], .hid (mk 20 [(4, .s (.ptr 0 0)), (5, .s (.ptr 1 0)), (10, .s (.p (.sl X s))), (11, pint (ar.len X)), (12, pint pi)]) vs1, .hid (mk 47 [(0, .s (.ptr 1 0)), (1, .s (.p (.sl (ar.frm Dr (ar.nat (ar.cpn Dr 136 (ar.nat hv)))) sd)))]) vsa]⟩,
          fun q => 136 - q.1.1, [], _, ⟨(0, 0, YV), Nat.zero_le _, rfl, hYV⟩, rfl, ?_, ?_⟩
        · conv => cbv
          simp
        rintro ⟨⟨r, ri, Y⟩, hq⟩
        have hr : r ≤ 136 := hq.1
        have hri : ri = (r : Int) := hq.2.1
        have hY : Y = wvs (xorIn L P1 r) := hq.2.2
        have hYn : (xorIn L P1 r).length = 25 := by rw [xorIn_len, hL1]
        dsimp only
        conv => cbv
        refine ⟨fun h => ?_, fun h => ?_⟩
        · have hlt : r < 136 := by have := cLt har (b := 136) h; omega
          obtain ⟨x, hx⟩ : ∃ x, P1[r]? = some x := ⟨_, List.getElem?_eq_getElem (by omega)⟩
          have hxb := hP1b x (List.mem_of_getElem? hx)
          have hxB : P1.getD r 0 = x := by rw [List.getD_eq_getElem?_getD, hx]; rfl
          have rx : (ar.cpw PV (ar.nat hv) Dr)[ri.toNat]? = some (.int .u8 x) := get_at hri (by rw [hWP, u8s, List.getElem?_map, hx]; rfl)
          obtain ⟨z, hz⟩ : ∃ z : Int, z = ((g (xorIn L P1 r) (r / 8)).toNat : Int) := ⟨_, rfl⟩
          have q8 : ar.ib .quo .i64 ri 8 = ((r / 8 : Nat) : Int) := by rw [hri]; exact iQuo har (b := 8) (by omega)
          have qn : ar.nat (ar.ib .quo .i64 ri 8) = r / 8 := natOf har q8
          have hz1 : Y[ar.nat (ar.ib .quo .i64 ri 8)]? = some (.int .u64 z) := by rw [qn, hY, hz]; exact g_get (by omega)
          have b8q : 0 ≤ ar.ib .quo .i64 ri 8 ∧ ar.ib .quo .i64 ri 8 < 25 := by rw [q8]; omega
          have l8q : ar.nat (ar.ib .quo .i64 ri 8) < 25 := by rw [qn]; omega
          have sh : ar.ib .mul .i64 8 (ar.ib .rem .i64 ri 8) = ((8 * (r % 8) : Nat) : Int) := by
            have e1 : ar.ib .rem .i64 ri 8 = ((r % 8 : Nat) : Int) := iRemL har (m := 8) hri
            rw [e1]; exact iMulL har (n := 8) rfl rfl (by omega)
          have sh0 : 0 ≤ ar.ib .mul .i64 8 (ar.ib .rem .i64 ri 8) := by rw [sh]; omega
          have hY2 : ar.set Y (ar.nat (ar.ib .quo .i64 ri 8)) (.int .u64 (ar.ib .xor .u64 z (ar.ib .shl .u64 (ar.cv .u64 x) (ar.ib .mul .i64 8 (ar.ib .rem .i64 ri 8))))) = wvs (xorIn L P1 (r + 1)) := by
            have e3 : ar.cv .u64 x = ((b2w x).toNat : Int) := by rw [cvU64 har (by omega)]; exact b2w_int hxb
            rw [setIs har, qn, sh, e3, iIs har, iIs har, hz, kshl _ (by omega), kxor, hY, xorIn, ← wvs_set, xorV, hxB]; rfl
          conv => cbv
          refine ⟨_, fun _ => ⟨by omega, rx⟩, ?_⟩
          conv => cbv
          refine ⟨by rw [har]; kernel_rfl, ?_⟩
          refine ⟨fun _ => b8q, _, hz1, ?_⟩
          conv => cbv
          refine ⟨fun _ => sh0, fun _ => b8q, fun _ => l8q, ?_⟩
          refine ⟨⟨(r + 1, ar.ib .add .i64 ri 1, _), hlt, iSucc har hri (by omega), hY2⟩, ?_, ?_⟩
          · dsimp only
            conv => cbv
            simp
          · show 136 - (r + 1) < 136 - r
            omega
        have hre : r = 136 := by have := cNlt har (b := 136) h; omega
        rw [hre] at hY hYn
        obtain ⟨Y2, hY2⟩ : ∃ Y, Y = wvs (absb L P1) := ⟨_, rfl⟩
        have callP : ∀ (Γ : Ctx) (d' : Nat) (k : List PR → Prop) (Q : Prop), Γ = ctx Tryd.prog d' → k [.a [.r 25 Y2]] → Γ.g 132 [.a [.r 25 Y]] k ∨ Q := fun Γ d' k Q hΓ hk => call_by hΓ permute_sound ⟨_, by rw [hY], hYn, by rw [show perm (xorIn L P1 136) = absb L P1 from rfl, ← hY2]; exact hk⟩
        conv => cbv
        refine callP _ _ _ _ hΓ2 ?_
        conv => cbv
        refine ⟨⟨(c + n, (ar.frm Dr (ar.nat (ar.cpn Dr 136 (ar.nat hv)))), Y2, (ar.cpw PV (ar.nat hv) Dr), 0), by show c + n ≤ d.length; omega, hD2d, _, P1, 0, hfull, hY2, hWP, rfl, hP1b⟩, ?_, ?_⟩
        · dsimp only
          conv => cbv
          simp
        · show d.length - (c + n) < d.length - c
          omega
      · have h136 := cNeq har (a := (ar.ib .add .i64 hv (ar.cpn Dr 136 (ar.nat hv)))) (b := 136) hc2
        rw [hh2n] at h136
        have hpart := HH.part ((d.drop c).take n) (by rw [hxn]; omega)
        rw [← hP1, htx, hxn] at hpart
        conv => cbv
        refine ⟨⟨(c + n, (ar.frm Dr (ar.nat (ar.cpn Dr 136 (ar.nat hv)))), YV, (ar.cpw PV (ar.nat hv) Dr), (ar.ib .add .i64 hv (ar.cpn Dr 136 (ar.nat hv)))), by show c + n ≤ d.length; omega, hD2d, L, P1, hh + n, hpart, hYV, hWP, hh2n, hP1b⟩, ?_, ?_⟩
        · dsimp only
          conv => cbv
          simp
        · show d.length - (c + n) < d.length - c
          omega
    have g' := cNgt har (a := ar.len Dr) (b := 0) h
    have hce : c = d.length := by omega
    rw [hce, List.take_length] at HH
    conv => cbv
    refine ⟨⟨(p + 1, ar.ib .add .i64 pi 1, YV, PV, hv, ar.ib .add .i64 lv (ar.len D)), hlt, iSucc har hpi (by omega), L, P, hh, by rw [hjt]; exact HH, hYV, hPV, hhv, hPb⟩, ?_, ?_⟩
    · dsimp only
      conv => cbv
      simp
    · show ps.length - (p + 1) < ps.length - p
      omega
  have g' := cNlt har (b := ar.len X) h
  have hpe : p = ps.length := by omega
  rw [hpe, List.take_length] at HH
  have hPl := HH.p
  have hh136 : hh < 136 := by rw [HH.e]; exact Nat.mod_lt _ (by omega)
  have hbs := HH.last
  have hL1 : L.length = 25 := by rw [HH.l, absN_len]
  have b1 : 0 ≤ hv ∧ hv ≤ 136 := by omega
  conv => cbv
  refine call_inV har hΓ Tryd.func86 rfl fun Γ3 hΓ3 vs3 => ?_
  have nh : ar.nat hv = hh := natOf har hhv
  have hC : ar.clw PV (ar.nat hv) (.int .u8 0) = u8s (P.take hh ++ List.replicate (136 - hh) 0) := by
    rw [nh, har, hPV]
    show (u8s P).take hh ++ List.replicate ((u8s P).length - hh) (Value.int .u8 0) = _
    simp only [u8s, List.length_map, hPl, List.map_append, List.map_take, List.map_replicate]
  have hz1 : (ar.clw PV (ar.nat hv) (.int .u8 0))[ar.nat hv]? = some (.int .u8 0) := by
    rw [hC, nh, u8s, List.getElem?_map, List.getElem?_append_right (by rw [List.length_take]; omega), List.length_take, hPl, List.getElem?_replicate, if_pos (by omega)]; rfl
  have b2 : 0 ≤ hv ∧ hv < 136 := by omega
  conv => cbv
  refine ⟨fun _ => b1, by rw [har]; kernel_rfl, fun _ => b2, _, hz1, ?_⟩
  have l2 : ar.nat hv < 136 := by rw [nh]; exact hh136
  obtain ⟨w5, hw5⟩ : ∃ w : Int, w = if hh = 135 then 1 else 0 := ⟨_, rfl⟩
  have hx01 : ar.ib .xor .u8 0 1 = 1 := by rw [har]; rfl
  have hC2 : ar.set (ar.clw PV (ar.nat hv) (.int .u8 0)) (ar.nat hv) (.int .u8 (ar.ib .xor .u8 0 1)) = u8s ((P.take hh ++ List.replicate (136 - hh) 0).set hh 1) := by
    rw [setIs har, hC, nh, hx01, u8s, u8s, List.map_set]
  have hC3 : ((P.take hh ++ List.replicate (136 - hh) 0).set hh 1)[135]? = some w5 := by
    rw [List.getElem?_set]
    have hl : (P.take hh ++ List.replicate (136 - hh) (0 : Int)).length = 136 := by simp [hPl]; omega
    rcases Nat.lt_or_ge hh 135 with h5 | h5
    · rw [if_neg (by omega), List.getElem?_append_right (by rw [List.length_take]; omega), List.length_take, hPl, List.getElem?_replicate, if_pos (by omega), hw5, if_neg (by omega)]
    · rw [if_pos (by omega), if_pos (by omega), hw5, if_pos (by omega)]
  have hg : (ar.set (ar.clw PV (ar.nat hv) (.int .u8 0)) (ar.nat hv) (.int .u8 (ar.ib .xor .u8 0 1)))[135]? = some (.int .u8 w5) := by
    rw [hC2, u8s, List.getElem?_map, hC3]; rfl
  conv at hg => lhs; cbv
  conv => cbv
  refine ⟨fun _ => b2, fun _ => l2, ?_⟩
  rw [hg]
  conv => cbv
  obtain ⟨P1, hP1⟩ : ∃ Q, Q = P.take hh ++ tailB hh := ⟨_, rfl⟩
  have hP1l : P1.length = 136 := by rw [hP1, List.length_append, List.length_take, tailB_len hh136]; omega
  have hP1b : ∀ b ∈ P1, 0 ≤ b ∧ b < 256 := fun b hb => by
    rw [hP1] at hb
    rcases List.mem_append.1 hb with hb | hb
    · exact hPb b (List.mem_of_mem_take hb)
    · unfold tailB at hb
      split at hb
      · simp at hb; omega
      · simp at hb; omega
  have hx5 : ar.ib .xor .u8 w5 128 = if hh = 135 then 129 else 128 := by
    rw [har, hw5]; split <;> rfl
  have hWP : ((ar.set (ar.clw PV (ar.nat hv) (.int .u8 0)) (ar.nat hv) (.int .u8 (ar.ib .xor .u8 0 1))).set 135 (.int .u8 (ar.ib .xor .u8 w5 128))) = u8s P1 := by
    rw [hC2, hx5, hP1, ← last_block hPl hh136 _ rfl, u8s, u8s, List.map_set, List.map_set, List.map_set]
  rw [← hP1] at hbs
  obtain ⟨W5, hW5⟩ : ∃ W, ((ar.set (ar.clw PV (ar.nat hv) (.int .u8 0)) (ar.nat hv) (.int .u8 (ar.ib .xor .u8 0 1))).set 135 (.int .u8 (ar.ib .xor .u8 w5 128))) = W := ⟨_, rfl⟩
  rw [hW5] at hWP
  conv at hW5 => lhs; cbv
  rw [hW5]
  refine call_inV har hΓ3 Tryd.func114 rfl fun Γ4 hΓ4 vs4 => ?_
  conv => cbv
  refine .inr ⟨{ q : Nat × Int × List Value // q.1 ≤ 136 ∧ q.2.1 = q.1 ∧ q.2.2 = wvs (xorIn L P1 q.1) },
    fun q => ⟨mk 41 [(0, .s (.ptr 4 0)), (7, .a [.r 136 W5]), (8, pint q.1.2.1)], [.box [.r 32 (u8s (List.replicate 32 0))], .box [.c (.lit .i64 0), .r 25 YV, .r 136 PV, .c (.p (.v (.int .i64 hv))), .c (.p (.v (.int .i64 lv)))], .hid (mk 20 [(4, .s (.ptr 0 0))]) vs3, .box [.r 32 (u8s (List.replicate 32 0))], .box [.c (.lit .i64 0), .r 25 q.1.2.2, .r 136 W5, .c (.p (.v (.int .i64 hv))), .c (.p (.v (.int .i64 lv)))], .hid (mk 52 [(2, .s (.ptr 3 0)), (3, .s (.ptr 4 0))]) vs4]⟩,
    fun q => 136 - q.1.1, [], _, ⟨(0, 0, YV), Nat.zero_le _, rfl, hYV⟩, rfl, ?_, ?_⟩
  · conv => cbv
    simp
  rintro ⟨⟨r, ri, Y⟩, hq⟩
  have hr : r ≤ 136 := hq.1
  have hri : ri = (r : Int) := hq.2.1
  have hY : Y = wvs (xorIn L P1 r) := hq.2.2
  have hYn : (xorIn L P1 r).length = 25 := by rw [xorIn_len, hL1]
  dsimp only
  conv => cbv
  refine ⟨fun h => ?_, fun h => ?_⟩
  · have hlt : r < 136 := by have := cLt har (b := 136) h; omega
    obtain ⟨x, hx⟩ : ∃ x, P1[r]? = some x := ⟨_, List.getElem?_eq_getElem (by omega)⟩
    have hxb := hP1b x (List.mem_of_getElem? hx)
    have hxB : P1.getD r 0 = x := by rw [List.getD_eq_getElem?_getD, hx]; rfl
    have rx : W5[ri.toNat]? = some (.int .u8 x) := get_at hri (by rw [hWP, u8s, List.getElem?_map, hx]; rfl)
    obtain ⟨z, hz⟩ : ∃ z : Int, z = ((g (xorIn L P1 r) (r / 8)).toNat : Int) := ⟨_, rfl⟩
    have q8 : ar.ib .quo .i64 ri 8 = ((r / 8 : Nat) : Int) := by rw [hri]; exact iQuo har (b := 8) (by omega)
    have qn : ar.nat (ar.ib .quo .i64 ri 8) = r / 8 := natOf har q8
    have hz1 : Y[ar.nat (ar.ib .quo .i64 ri 8)]? = some (.int .u64 z) := by rw [qn, hY, hz]; exact g_get (by omega)
    have b8q : 0 ≤ ar.ib .quo .i64 ri 8 ∧ ar.ib .quo .i64 ri 8 < 25 := by rw [q8]; omega
    have l8q : ar.nat (ar.ib .quo .i64 ri 8) < 25 := by rw [qn]; omega
    have sh : ar.ib .mul .i64 8 (ar.ib .rem .i64 ri 8) = ((8 * (r % 8) : Nat) : Int) := by
      have e1 : ar.ib .rem .i64 ri 8 = ((r % 8 : Nat) : Int) := iRemL har (m := 8) hri
      rw [e1]; exact iMulL har (n := 8) rfl rfl (by omega)
    have sh0 : 0 ≤ ar.ib .mul .i64 8 (ar.ib .rem .i64 ri 8) := by rw [sh]; omega
    have hY2 : ar.set Y (ar.nat (ar.ib .quo .i64 ri 8)) (.int .u64 (ar.ib .xor .u64 z (ar.ib .shl .u64 (ar.cv .u64 x) (ar.ib .mul .i64 8 (ar.ib .rem .i64 ri 8))))) = wvs (xorIn L P1 (r + 1)) := by
      have e3 : ar.cv .u64 x = ((b2w x).toNat : Int) := by rw [cvU64 har (by omega)]; exact b2w_int hxb
      rw [setIs har, qn, sh, e3, iIs har, iIs har, hz, kshl _ (by omega), kxor, hY, xorIn, ← wvs_set, xorV, hxB]; rfl
    conv => cbv
    refine ⟨_, fun _ => ⟨by omega, rx⟩, ?_⟩
    conv => cbv
    refine ⟨by rw [har]; kernel_rfl, ?_⟩
    refine ⟨fun _ => b8q, _, hz1, ?_⟩
    conv => cbv
    refine ⟨fun _ => sh0, fun _ => b8q, fun _ => l8q, ?_⟩
    refine ⟨⟨(r + 1, ar.ib .add .i64 ri 1, _), hlt, iSucc har hri (by omega), hY2⟩, ?_, ?_⟩
    · dsimp only
      conv => cbv
      simp
    · show 136 - (r + 1) < 136 - r
      omega
  have hre : r = 136 := by have := cNlt har (b := 136) h; omega
  rw [hre] at hY hYn
  obtain ⟨Y2, hY2⟩ : ∃ Y, Y = wvs (absb L P1) := ⟨_, rfl⟩
  have callP : ∀ (Γ : Ctx) (d' : Nat) (k : List PR → Prop) (Q : Prop), Γ = ctx Tryd.prog d' → k [.a [.r 25 Y2]] → Γ.g 132 [.a [.r 25 Y]] k ∨ Q := fun Γ d' k Q hΓ hk => call_by hΓ permute_sound ⟨_, by rw [hY], hYn, by rw [show perm (xorIn L P1 136) = absb L P1 from rfl, ← hY2]; exact hk⟩
  conv => cbv
  refine callP _ _ _ _ hΓ4 ?_
  conv => cbv
  rw [show absb L P1 = absb L P1 from rfl] at hbs
  have hal : (absb L P1).length = 25 := by rw [absb_len, hL1]
  refine .inr ⟨{ q : Nat × Int × List Value // q.1 ≤ 32 ∧ q.2.1 = q.1 ∧ q.2.2 = u8s (outAt (absb L P1) q.1) },
    fun q => ⟨mk 52 [(2, .s (.ptr 3 0)), (3, .s (.ptr 4 0)), (4, .s (.ptr 6 0)), (35, pint q.1.2.1)], [.box [.r 32 (u8s (List.replicate 32 0))], .box [.c (.lit .i64 0), .r 25 YV, .r 136 PV, .c (.p (.v (.int .i64 hv))), .c (.p (.v (.int .i64 lv)))], .hid (mk 20 [(4, .s (.ptr 0 0))]) vs3, .box [.r 32 (u8s (List.replicate 32 0))], .box [.c (.lit .i64 0), .r 25 Y2, .r 136 W5, .c (.lit .i64 0), .c (.p (.v (.int .i64 lv)))], .gone, .box [.r 32 q.1.2.2]]⟩,
    fun q => 32 - q.1.1, [], _, ⟨(0, 0, u8s (List.replicate 32 0)), Nat.zero_le _, rfl, rfl⟩, rfl, ?_, ?_⟩
  · conv => cbv
    simp
  rintro ⟨⟨r, ri, H⟩, hq⟩
  have hr : r ≤ 32 := hq.1
  have hri : ri = (r : Int) := hq.2.1
  have hH : H = u8s (outAt (absb L P1) r) := hq.2.2
  dsimp only
  conv => cbv
  refine ⟨fun h => ?_, fun h => ?_⟩
  · have hlt : r < 32 := by have := cLt har (b := 32) h; omega
    obtain ⟨z, hz⟩ : ∃ z : Int, z = ((g (absb L P1) (r / 8)).toNat : Int) := ⟨_, rfl⟩
    have q8 : ar.ib .quo .i64 ri 8 = ((r / 8 : Nat) : Int) := by rw [hri]; exact iQuo har (b := 8) (by omega)
    have qn : ar.nat (ar.ib .quo .i64 ri 8) = r / 8 := natOf har q8
    have hz1 : Y2[ar.nat (ar.ib .quo .i64 ri 8)]? = some (.int .u64 z) := by rw [qn, hY2, hz]; exact g_get (by omega)
    have b8q : 0 ≤ ar.ib .quo .i64 ri 8 ∧ ar.ib .quo .i64 ri 8 < 25 := by rw [q8]; omega
    have sh : ar.ib .mul .i64 8 (ar.ib .rem .i64 ri 8) = ((8 * (r % 8) : Nat) : Int) := by
      have e1 : ar.ib .rem .i64 ri 8 = ((r % 8 : Nat) : Int) := iRemL har (m := 8) hri
      rw [e1]; exact iMulL har (n := 8) rfl rfl (by omega)
    have sh0 : 0 ≤ ar.ib .mul .i64 8 (ar.ib .rem .i64 ri 8) := by rw [sh]; omega
    have nr : ar.nat ri = r := natOf har hri
    have br : 0 ≤ ri ∧ ri < 32 := by omega
    have lr : ar.nat ri < 32 := by rw [nr]; exact hlt
    have hH2 : ar.set H (ar.nat ri) (.int .u8 (ar.cv .u8 (ar.ib .shr .u64 z (ar.ib .mul .i64 8 (ar.ib .rem .i64 ri 8))))) = u8s (outAt (absb L P1) (r + 1)) := by
      rw [setIs har, nr, sh, iIs har, hz, kshr _ (by omega), cvU8 har, hH, outAt, u8s, u8s, List.map_set, sqV]; rfl
    conv => cbv
    refine ⟨fun _ => b8q, _, hz1, ?_⟩
    conv => cbv
    refine ⟨fun _ => sh0, fun _ => br, fun _ => lr, ?_⟩
    refine ⟨⟨(r + 1, ar.ib .add .i64 ri 1, _), hlt, iSucc har hri (by omega), hH2⟩, ?_, ?_⟩
    · dsimp only
      conv => cbv
      simp
    · show 32 - (r + 1) < 32 - r
      omega
  have hre : r = 32 := by have := cNlt har (b := 32) h; omega
  have hk : k [.a [.r 32 H]] := by rw [hH, hre, outAt_sq, ← hbs]; exact hk
  conv => cbv
  exact hk
end Go.Eng
