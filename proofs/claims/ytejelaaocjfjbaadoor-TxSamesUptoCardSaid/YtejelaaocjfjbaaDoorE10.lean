/-
  waybillplay.StillTx of what LentTx lent; waybilllaw15.untouched. Condition: at most 2^36 elements in each list.
-/
import Derived.Test.YtejelaaocjfjbaaDoorE9
import Derived.Test.YtejelaaocjfjbaaDoorE6
namespace Go.Eng
open Go Go.Proofs
set_option maxRecDepth 100000
set_option maxHeartbeats 8000000
set_option linter.unusedVariables false

theorem playStillTx_sound : Sound Tryd.prog 34 fun args k => ∃ t : Tx, args = [.a t.lent.row, .a t.row] ∧ t.small ∧ t.ok ∧ k [.s (.v (.bool true))] := by
  refine Sound.of_body tt_ok ent_ok Tryd.func34 rfl ?_
  rintro ar har Γ hΓ args k ⟨⟨tty, tch, tno, tpr, tti, tca, tga, tcr, tto, tva, td, tsd, tac, tsac, tbc, tbl, tsbl, tau, tsau, tv, tr, ts⟩, hargs, hs, ho, hk⟩
  obtain ⟨tWpr, thWpr⟩ : ∃ x, x = w4 tpr := ⟨_, rfl⟩
  obtain ⟨tWti, thWti⟩ : ∃ x, x = w4 tti := ⟨_, rfl⟩
  obtain ⟨tWca, thWca⟩ : ∃ x, x = w4 tca := ⟨_, rfl⟩
  obtain ⟨tWva, thWva⟩ : ∃ x, x = w4 tva := ⟨_, rfl⟩
  obtain ⟨tWbc, thWbc⟩ : ∃ x, x = w4 tbc := ⟨_, rfl⟩
  obtain ⟨tWv, thWv⟩ : ∃ x, x = w4 tv := ⟨_, rfl⟩
  obtain ⟨tWr, thWr⟩ : ∃ x, x = w4 tr := ⟨_, rfl⟩
  obtain ⟨tWs, thWs⟩ : ∃ x, x = w4 ts := ⟨_, rfl⟩
  obtain ⟨tWto, thWto⟩ : ∃ x, x = u8s tto := ⟨_, rfl⟩
  obtain ⟨tD, thD⟩ : ∃ x, x = td.map b8' := ⟨_, rfl⟩
  obtain ⟨tA, thA⟩ : ∃ x, x = tac.map Ent.row := ⟨_, rfl⟩
  obtain ⟨tB, thB⟩ : ∃ x, x = tbl.map key := ⟨_, rfl⟩
  obtain ⟨tU, thU⟩ : ∃ x, x = tau.map Au.row := ⟨_, rfl⟩
  obtain ⟨tIch, thIch⟩ : ∃ x : Int, x = (tch : Int) := ⟨_, rfl⟩
  obtain ⟨tIno, thIno⟩ : ∃ x : Int, x = (tno : Int) := ⟨_, rfl⟩
  obtain ⟨tIga, thIga⟩ : ∃ x : Int, x = (tga : Int) := ⟨_, rfl⟩
  have trow : Tx.row ⟨tty, tch, tno, tpr, tti, tca, tga, tcr, tto, tva, td, tsd, tac, tsac, tbc, tbl, tsbl, tau, tsau, tv, tr, ts⟩ = [.c (.v (.int .i64 tty)), .c (.v (.int .u64 tIch)), .c (.v (.int .u64 tIno)), .r 4 tWpr, .r 4 tWti, .r 4 tWca, .c (.v (.int .u64 tIga)), .c (.v (.bool tcr)), .r 20 tWto, .r 4 tWva, .c (.sl tD tsd), .c (.sl tA tsac), .r 4 tWbc, .c (.sl tB tsbl), .c (.sl tU tsau), .r 4 tWv, .r 4 tWr, .r 4 tWs] := by rw [thWpr, thWti, thWca, thWva, thWbc, thWv, thWr, thWs, thWto, thD, thA, thB, thU, thIch, thIno, thIga]; rfl
  obtain ⟨R, hR⟩ : ∃ R, R = a5s := ⟨_, rfl⟩
  obtain ⟨M, hM⟩ : ∃ M, M = [key mkH, key mkH] := ⟨_, rfl⟩
  obtain ⟨LA, hLA⟩ : ∃ L, L = (tac.map Ent.lent).map Ent.row := ⟨_, rfl⟩
  have lrow : Tx.row (Tx.lent ⟨tty, tch, tno, tpr, tti, tca, tga, tcr, tto, tva, td, tsd, tac, tsac, tbc, tbl, tsbl, tau, tsau, tv, tr, ts⟩) = [.c (.v (.int .i64 tty)), .c (.v (.int .u64 tIch)), .c (.v (.int .u64 tIno)), .r 4 tWpr, .r 4 tWti, .r 4 tWca, .c (.v (.int .u64 tIga)), .c (.v (.bool tcr)), .r 20 tWto, .r 4 tWva, .c (.sl tD R), .c (.sl LA [mkE.row, mkE.row]), .r 4 tWbc, .c (.sl tB M), .c (.sl tU [mkAu.row, mkAu.row]), .r 4 tWv, .r 4 tWr, .r 4 tWs] := by rw [hLA, hR, hM, thWpr, thWti, thWca, thWva, thWbc, thWv, thWr, thWs, thWto, thD, thB, thU, thIch, thIno, thIga]; rfl
  rw [trow, lrow] at hargs
  have hAl : ar.len tA = (tac.length : Int) := by rw [lenIs har, thA, List.length_map]
  have hLl : ar.len LA = (tac.length : Int) := by rw [lenIs har, hLA]; simp
  have hLn : LA.length = tac.length := by rw [hLA]; simp
  have hUl : ar.len tU = (tau.length : Int) := by rw [lenIs har, thU, List.length_map]
  have hUn : tU.length = tau.length := by rw [thU, List.length_map]
  have sd := hs.d
  have sac := hs.ac
  have sks := hs.ks
  have sbl := hs.bl
  have sau := hs.au
  simp only at sd sac sks sbl sau
  have nT : ar.nb true = false := by rw [har]; rfl
  have callL : ∀ (Γ : Ctx) (d' : Nat) (k : List PR → Prop) (Q : Prop), Γ = ctx Tryd.prog d' → k [.s (.v (.bool true))] → Γ.g 56 [.s (.sl tD R), .s (.sl tD tsd)] k ∨ Q := fun Γ d' k Q hΓ hk => call_by hΓ playStill_sound ⟨td, tsd, by rw [thD, hR], sd, hk⟩
  have callH : ∀ (Γ : Ctx) (d' : Nat) (k : List PR → Prop) (Q : Prop), Γ = ctx Tryd.prog d' → k [.s (.v (.bool true))] → Γ.g 57 [.s (.sl tB M), .s (.sl tB tsbl)] k ∨ Q := fun Γ d' k Q hΓ hk => call_by hΓ playStillHashes_sound ⟨tbl, tsbl, by rw [thB, hM], sbl, hk⟩
  have n1 : ar.cb .neq (ar.len tU) (ar.len tU) = false := dNne har rfl
  have n2 : ar.cb .neq (ar.len LA) (ar.len tA) = false := dNne har (by rw [hLl, hAl])
  have h2 : ar.ib .add .i64 (ar.len tU) 2 = ((tau.length + 2 : Nat) : Int) := by rw [hUl, iAdd har (by omega)]; omega
  have h1 : ar.ib .add .i64 (ar.len tU) 1 = ((tau.length + 1 : Nat) : Int) := by rw [hUl, iAdd har (by omega)]; omega
  have s1 : 0 ≤ ar.ib .add .i64 (ar.len tU) 2 ∧ ar.ib .add .i64 (ar.len tU) 2 ≤ ((tU.length + 2 : Nat) : Int) := by rw [h2]; omega
  have f1 : ar.mid (ar.app tU [mkAu.row, mkAu.row]) 0 (ar.nat (ar.ib .add .i64 (ar.len tU) 2)) = tU ++ [mkAu.row, mkAu.row] := by
    rw [natOf har h2, midIs har, appIs har, ← hUn]
    have e : (tU ++ [mkAu.row, mkAu.row]).length = tU.length + 2 := by simp
    rw [← e, List.take_length, List.drop_zero]
  have b2 : ar.ib .add .i64 (ar.len tA) 2 = ((tac.length + 2 : Nat) : Int) := by rw [hAl, iAdd har (by omega)]; omega
  have b1 : ar.ib .add .i64 (ar.len tA) 1 = ((tac.length + 1 : Nat) : Int) := by rw [hAl, iAdd har (by omega)]; omega
  have s2 : 0 ≤ ar.ib .add .i64 (ar.len tA) 2 ∧ ar.ib .add .i64 (ar.len tA) 2 ≤ ((LA.length + 2 : Nat) : Int) := by rw [b2]; omega
  have f2 : ar.mid (ar.app LA [mkE.row, mkE.row]) 0 (ar.nat (ar.ib .add .i64 (ar.len tA) 2)) = LA ++ [mkE.row, mkE.row] := by
    rw [natOf har b2, midIs har, appIs har, ← hLn]
    have e : (LA ++ [mkE.row, mkE.row]).length = LA.length + 2 := by simp
    rw [← e, List.take_length, List.drop_zero]
  subst hargs
  conv => cbv
  refine callL _ _ _ _ hΓ ?_
  conv => cbv
  refine gonT nT ?_
  conv => cbv
  refine callH _ _ _ _ hΓ ?_
  conv => cbv
  refine gonT nT ?_
  conv => cbv
  refine gonT n1 ?_
  conv => cbv
  refine onF n2 ?_
  conv => cbv
  refine ⟨fun _ => s1, ?_⟩
  refine .inr ⟨{ q : Nat × Int × List (List PS) × List (List PS) // q.1 ≤ tau.length ∧ q.2.1 = q.1 ∧ q.2.2.1 = tU ++ [mkAu.row, mkAu.row] },
    fun q => ⟨mk 146 [(2, .s (.ptr 0 0)), (3, .s (.ptr 1 0)), (5, .s (.p (.sl q.1.2.2.1 q.1.2.2.2))), (6, pint q.1.2.1)], [.box [.c (.p (.v (.int .i64 tty))), .c (.p (.v (.int .u64 tIch))), .c (.p (.v (.int .u64 tIno))), .r 4 tWpr, .r 4 tWti, .r 4 tWca, .c (.p (.v (.int .u64 tIga))), .c (.p (.v (.bool tcr))), .r 20 tWto, .r 4 tWva, .c (.p (.sl tD R)), .c (.p (.sl LA [mkE.row, mkE.row])), .r 4 tWbc, .c (.p (.sl tB M)), .c (.p (.sl tU [mkAu.row, mkAu.row])), .r 4 tWv, .r 4 tWr, .r 4 tWs], .box [.c (.p (.v (.int .i64 tty))), .c (.p (.v (.int .u64 tIch))), .c (.p (.v (.int .u64 tIno))), .r 4 tWpr, .r 4 tWti, .r 4 tWca, .c (.p (.v (.int .u64 tIga))), .c (.p (.v (.bool tcr))), .r 20 tWto, .r 4 tWva, .c (.p (.sl tD tsd)), .c (.p (.sl tA tsac)), .r 4 tWbc, .c (.p (.sl tB tsbl)), .c (.p (.sl tU tsau)), .r 4 tWv, .r 4 tWr, .r 4 tWs]]⟩,
    fun q => tau.length - q.1.1, [], _, ⟨(0, 0, ar.mid (ar.app tU [mkAu.row, mkAu.row]) 0 (ar.nat (ar.ib .add .i64 (ar.len tU) 2)), ar.frm (ar.app tU [mkAu.row, mkAu.row]) (ar.nat (ar.ib .add .i64 (ar.len tU) 2))), Nat.zero_le _, rfl, f1⟩, rfl, ?_, ?_⟩
  · conv => cbv
    simp
  rintro ⟨⟨p, pi, F, G⟩, hq⟩
  have hp : p ≤ tau.length := hq.1
  have hpi : pi = (p : Int) := hq.2.1
  have hF : F = tU ++ [mkAu.row, mkAu.row] := hq.2.2
  dsimp only
  conv => cbv
  refine ⟨fun h => ?_, fun h => ?_⟩
  · have g' := cLt har (b := ar.len tU) h
    have hlt : p < tau.length := by omega
    obtain ⟨x, hx⟩ : ∃ x, tau[p]? = some x := ⟨_, List.getElem?_eq_getElem hlt⟩
    have hxo := ho.au x (List.mem_of_getElem? hx)
    obtain ⟨lx0, lx1, lx2, lx3, la0, la1, la2, la3, la4, la5, la6, la7, la8, la9, la10, la11, la12, la13, la14, la15, la16, la17, la18, la19, lc3, lc4, ly0, ly1, ly2, ly3, lz0, lz1, lz2, lz3, hrx, hox, hcx⟩ := au_cells2 x hxo.1 hxo.2
    have hself := eqVals_self (l := []) hox
    have rx : tU[pi.toNat]? = some [.r 4 [.int .u64 lx0, .int .u64 lx1, .int .u64 lx2, .int .u64 lx3], .r 20 [.int .u8 la0, .int .u8 la1, .int .u8 la2, .int .u8 la3, .int .u8 la4, .int .u8 la5, .int .u8 la6, .int .u8 la7, .int .u8 la8, .int .u8 la9, .int .u8 la10, .int .u8 la11, .int .u8 la12, .int .u8 la13, .int .u8 la14, .int .u8 la15, .int .u8 la16, .int .u8 la17, .int .u8 la18, .int .u8 la19], .c (.v (.int .u64 lc3)), .c (.v (.int .u64 lc4)), .r 4 [.int .u64 ly0, .int .u64 ly1, .int .u64 ly2, .int .u64 ly3], .r 4 [.int .u64 lz0, .int .u64 lz1, .int .u64 lz2, .int .u64 lz3]] := by rw [thU, hpi, ← hrx]; simp [hx]
    have ry : F[pi.toNat]? = some [.r 4 [.int .u64 lx0, .int .u64 lx1, .int .u64 lx2, .int .u64 lx3], .r 20 [.int .u8 la0, .int .u8 la1, .int .u8 la2, .int .u8 la3, .int .u8 la4, .int .u8 la5, .int .u8 la6, .int .u8 la7, .int .u8 la8, .int .u8 la9, .int .u8 la10, .int .u8 la11, .int .u8 la12, .int .u8 la13, .int .u8 la14, .int .u8 la15, .int .u8 la16, .int .u8 la17, .int .u8 la18, .int .u8 la19], .c (.v (.int .u64 lc3)), .c (.v (.int .u64 lc4)), .r 4 [.int .u64 ly0, .int .u64 ly1, .int .u64 ly2, .int .u64 ly3], .r 4 [.int .u64 lz0, .int .u64 lz1, .int .u64 lz2, .int .u64 lz3]] := by rw [hF, List.getElem?_append_left (by rw [hUn, hpi]; simpa using hlt)]; exact rx
    conv => cbv
    refine ⟨by rw [har]; kernel_rfl, ?_⟩
    refine ⟨_, by omega, ry, rfl, ?_⟩
    conv => cbv
    refine ⟨_, by omega, rx, rfl, ?_⟩
    conv => cbv
    refine ⟨true, fun _ => ⟨hox, hox, hself⟩, ?_⟩
    conv => cbv
    refine onF nT ?_
    conv => cbv
    refine ⟨⟨(p + 1, ar.ib .add .i64 pi 1, F, G), hlt, iSucc har hpi (by omega), hF⟩, ?_, ?_⟩
    · dsimp only
      conv => cbv
      simp
    · show tau.length - (p + 1) < tau.length - p
      omega
  have r1 : F[(ar.len tU).toNat]? = some mkAu.row := by
    rw [hUl, Int.toNat_natCast, hF, List.getElem?_append_right (by omega), hUn, Nat.sub_self]; rfl
  have r2 : F[(ar.ib .add .i64 (ar.len tU) 1).toNat]? = some mkAu.row := by
    rw [h1, Int.toNat_natCast, hF, List.getElem?_append_right (by omega), hUn, Nat.add_sub_cancel_left]; rfl
  have hl0 : 0 ≤ ar.len tU := by omega
  have hl1 : 0 ≤ ar.ib .add .i64 (ar.len tU) 1 := by omega
  have n3 : ar.cb .neq 165 165 = false := dNne har rfl
  conv => cbv
  refine ⟨_, hl0, r1, rfl, ?_⟩
  conv => cbv
  refine gonT n3 ?_
  conv => cbv
  refine ⟨_, hl1, r2, rfl, ?_⟩
  conv => cbv
  refine onF n3 ?_
  conv => cbv
  refine ⟨fun _ => s2, ?_⟩
  refine .inr ⟨{ q : Nat × Int × List (List PS) × List (List PS) // q.1 ≤ tac.length ∧ q.2.1 = q.1 ∧ q.2.2.1 = LA ++ [mkE.row, mkE.row] },
    fun q => ⟨mk 146 [(2, .s (.ptr 0 0)), (3, .s (.ptr 1 0)), (7, .s (.p (.sl q.1.2.2.1 q.1.2.2.2))), (8, pint q.1.2.1)], [.box [.c (.p (.v (.int .i64 tty))), .c (.p (.v (.int .u64 tIch))), .c (.p (.v (.int .u64 tIno))), .r 4 tWpr, .r 4 tWti, .r 4 tWca, .c (.p (.v (.int .u64 tIga))), .c (.p (.v (.bool tcr))), .r 20 tWto, .r 4 tWva, .c (.p (.sl tD R)), .c (.p (.sl LA [mkE.row, mkE.row])), .r 4 tWbc, .c (.p (.sl tB M)), .c (.p (.sl tU [mkAu.row, mkAu.row])), .r 4 tWv, .r 4 tWr, .r 4 tWs], .box [.c (.p (.v (.int .i64 tty))), .c (.p (.v (.int .u64 tIch))), .c (.p (.v (.int .u64 tIno))), .r 4 tWpr, .r 4 tWti, .r 4 tWca, .c (.p (.v (.int .u64 tIga))), .c (.p (.v (.bool tcr))), .r 20 tWto, .r 4 tWva, .c (.p (.sl tD tsd)), .c (.p (.sl tA tsac)), .r 4 tWbc, .c (.p (.sl tB tsbl)), .c (.p (.sl tU tsau)), .r 4 tWv, .r 4 tWr, .r 4 tWs]]⟩,
    fun q => tac.length - q.1.1, [], _, ⟨(0, 0, ar.mid (ar.app LA [mkE.row, mkE.row]) 0 (ar.nat (ar.ib .add .i64 (ar.len tA) 2)), ar.frm (ar.app LA [mkE.row, mkE.row]) (ar.nat (ar.ib .add .i64 (ar.len tA) 2))), Nat.zero_le _, rfl, f2⟩, rfl, ?_, ?_⟩
  · conv => cbv
    simp
  rintro ⟨⟨p, pi, F, G⟩, hq⟩
  have hp : p ≤ tac.length := hq.1
  have hpi : pi = (p : Int) := hq.2.1
  have hF : F = LA ++ [mkE.row, mkE.row] := hq.2.2
  dsimp only
  conv => cbv
  refine ⟨fun h => ?_, fun h => ?_⟩
  · have g' := cLt har (b := ar.len tA) h
    have hlt : p < tac.length := by omega
    obtain ⟨x, hx⟩ : ∃ x, tac[p]? = some x := ⟨_, List.getElem?_eq_getElem hlt⟩
    have hxk := sks x (List.mem_of_getElem? hx)
    obtain ⟨xa, xk, xs1⟩ := x
    obtain ⟨xv, hxv⟩ : ∃ v, v = u8s xa := ⟨_, rfl⟩
    obtain ⟨xl, hxl⟩ : ∃ v, v = xk.map key := ⟨_, rfl⟩
    have rx : tA[pi.toNat]? = some [.r 20 xv, .c (.sl xl xs1)] := by rw [thA, hpi]; simp [hx, Ent.row, hxv, hxl]
    have ry : F[pi.toNat]? = some [.r 20 xv, .c (.sl xl M)] := by
      rw [hF, List.getElem?_append_left (by rw [hLn, hpi]; simpa using hlt), hLA, hpi]
      simp [hx, Ent.lent, Ent.row, hxv, hxl, hM]
    have nE : ar.nb (ar.eqv xv xv) = false := by
      have : ar.eqv xv xv = true := by rw [eqvIs har, hxv, eqVals_u8s]; simp
      rw [this, har]; rfl
    have hii : ints .u8 xv ∧ ints .u8 xv := by rw [hxv]; exact ⟨ints_u8s _, ints_u8s _⟩
    have callK : ∀ (Γ : Ctx) (d' : Nat) (k : List PR → Prop), Γ = ctx Tryd.prog d' → k [.s (.v (.bool true))] → Γ.g 57 [.s (.sl xl M), .s (.sl xl xs1)] k := fun Γ d' k hΓ hk => call_by' hΓ playStillHashes_sound ⟨xk, xs1, by rw [hxl, hM], hxk, hk⟩
    conv => cbv
    refine ⟨by rw [har]; kernel_rfl, ?_⟩
    refine ⟨_, by omega, ry, rfl, ?_⟩
    conv => cbv
    refine ⟨_, by omega, rx, rfl, ?_⟩
    conv => cbv
    refine ⟨fun _ => hii, ?_⟩
    refine gonT nE ?_
    conv => cbv
    refine ⟨_, by omega, ry, rfl, ?_⟩
    conv => cbv
    refine ⟨_, by omega, rx, rfl, ?_⟩
    conv => cbv
    refine callK _ _ _ hΓ ?_
    conv => cbv
    refine onF nT ?_
    conv => cbv
    refine ⟨⟨(p + 1, ar.ib .add .i64 pi 1, F, G), hlt, iSucc har hpi (by omega), hF⟩, ?_, ?_⟩
    · dsimp only
      conv => cbv
      simp
    · show tac.length - (p + 1) < tac.length - p
      omega
  obtain ⟨A1, hA1⟩ : ∃ M, M = u8s mkA := ⟨_, rfl⟩
  have q1 : F[(ar.len tA).toNat]? = some [.r 20 A1, .c (.sl [] [])] := by
    rw [hAl, Int.toNat_natCast, hF, List.getElem?_append_right (by omega), hLn, Nat.sub_self, hA1]; rfl
  have q2 : F[(ar.ib .add .i64 (ar.len tA) 1).toNat]? = some [.r 20 A1, .c (.sl [] [])] := by
    rw [b1, Int.toNat_natCast, hF, List.getElem?_append_right (by omega), hLn, Nat.add_sub_cancel_left, hA1]; rfl
  have hm0 : 0 ≤ ar.len tA := by omega
  have hm1 : 0 ≤ ar.ib .add .i64 (ar.len tA) 1 := by omega
  have hMM : ar.eqv A1 (u8s mkA) = true := by rw [eqvIs har, hA1, eqVals_u8s]; simp
  have hMi : ints .u8 A1 ∧ ints .u8 (u8s mkA) := by rw [hA1]; exact ⟨ints_u8s _, ints_u8s _⟩
  have hk2 : k [.s (.v (.bool (ar.eqv A1 (u8s mkA))))] := by rw [hMM]; exact hk
  conv => cbv
  refine ⟨by rw [har]; kernel_rfl, ?_⟩
  refine ⟨_, hm0, q1, rfl, ?_⟩
  conv => cbv
  refine ⟨fun _ => hMi, ?_⟩
  refine onT hMM ?_
  conv => cbv
  refine ⟨_, hm1, q2, rfl, ?_⟩
  conv => cbv
  exact ⟨fun _ => hMi, hk2⟩
end Go.Eng
