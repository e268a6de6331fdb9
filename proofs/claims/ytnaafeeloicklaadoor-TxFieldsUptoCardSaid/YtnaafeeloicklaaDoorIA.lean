/-
  waybillplay.Lent, LentHashes, LentTx, waybilllaw15.twin: their lists are the caller's own (what stands behind them is not told). Condition: at most 2^36 elements in each list.
  waybilllaw15.changed: a transaction with another value in one field. Condition: its lists hold at most 2^27 nodes and bytes.
  TxFields. Condition: the transaction's lists hold at most 2^27 nodes and bytes.
-/
import Derived.Test.YtnaafeeloicklaaDoorEA
import Derived.Test.YtnaafeeloicklaaDoorHA
import Derived.Test.YtnaafeeloicklaaDoorFB
namespace Go.Eng
open Go Go.Proofs
set_option maxRecDepth 100000
set_option maxHeartbeats 4000000
set_option linter.unusedVariables false

theorem playLentO_sound : Sound Tryd.prog 45 fun args k => ∃ (d : List Int) (sd : List (List PS)), args = [.s (.sl (d.map b8') sd)] ∧ d.length ≤ 2 ^ 40 ∧ k [.s (.ow (d.map b8') 5 1 1)] := by
  refine Sound.of_bodyO [] 0 tt_ok ent_ok Tryd.func45 rfl ?_
  rintro ar har Γ hΓ args k ⟨d, sd, rfl, hl, hk⟩
  obtain ⟨D, hD⟩ : ∃ D, D = d.map b8' := ⟨_, rfl⟩
  have hDl : ar.len D = (d.length : Int) := by rw [lenIs har, hD, List.length_map]
  have hDn : D.length = d.length := by rw [hD, List.length_map]
  obtain ⟨R, hR⟩ : ∃ R, R = List.replicate 70 a5 := ⟨_, rfl⟩
  rw [← hD] at hk ⊢
  have callC : ∀ (Γ : Ctx) (d' : Nat) (k : List PR → Prop) (R : Prop), Γ = ctx Tryd.prog d' → k [.s (.ow D 5 1 1)] → Γ.g 69 [.s (.sl D sd)] k ∨ R := fun Γ d' k R hΓ hk => call_by hΓ playCopy_sound ⟨d, sd, by rw [hD], hl, by rw [← hD]; exact hk⟩
  conv => cbv
  refine callC _ _ _ _ hΓ ?_
  conv => cbv
  refine .inr ⟨{ q : Nat × Int × List (List PS) // q.1 ≤ 70 ∧ q.2.1 = q.1 ∧ q.2.2 = D ++ List.replicate q.1 a5 },
    fun q => ⟨mk 18 [(0, .s (.p (.sl D sd))), (3, .s (.own 0)), (4, pint q.1.2.1)], [.arr q.1.2.2 5 1 1 true]⟩,
    fun q => 70 - q.1.1, [], _, ⟨(0, 0, D), Nat.zero_le _, rfl, by simp⟩, rfl, ?_, ?_⟩
  · conv => cbv
    simp
  · rintro ⟨⟨p, pi, L⟩, hq⟩
    have hp : p ≤ 70 := hq.1
    have hpi : pi = (p : Int) := hq.2.1
    have hL : L = D ++ List.replicate p a5 := hq.2.2
    have hLl : L.length = d.length + p := by rw [hL, List.length_append, List.length_replicate, hDn]
    dsimp only
    conv => cbv
    refine ⟨fun h => ?_, fun h => ?_⟩
    · have g' := cLt har (b := 70) h
      have hlt : p < 70 := by omega
      have hL2 : ar.app L [[.c (.v (.int .u8 165))]] = D ++ List.replicate (p + 1) a5 := by
        rw [appIs har, hL, List.append_assoc, List.replicate_succ']; rfl
      have s1 : (L.length + 1) * 1 ≤ 140737488355328 ∧ ∀ y ∈ [[PS.c (.v (.int .u8 165))]], rlen y = 1 := ⟨by omega, by simp [rlen, PS.len]⟩
      conv => cbv
      refine ⟨fun _ => s1, ?_⟩
      refine ⟨⟨(p + 1, ar.ib .add .i64 pi 1, ar.app L [[.c (.v (.int .u8 165))]]), hlt, iSucc har hpi (by omega), hL2⟩, ?_, ?_⟩
      · dsimp only
        conv => cbv
        simp
      · show 70 - (p + 1) < 70 - p
        omega
    · have g' := cNlt har (b := 70) h
      have hpe : p = 70 := by omega
      subst hpe
      have e1 : ar.mid L 0 (ar.nat (ar.len D)) = D := by rw [natOf har hDl, midIs har, hL, ← hDn]; simp
      have e2 : ar.frm L (ar.nat (ar.len D)) = R := by rw [natOf har hDl, frmIs har, hL, ← hDn, hR]; simp
      rw [← e1] at hk
      have b1 : 0 ≤ ar.len D ∧ ar.len D ≤ ((L.length + 0 : Nat) : Int) := by rw [hDl]; omega
      have b1c : 0 ≤ ar.len D ∧ ar.len D ≤ (L.length : Int) := by rw [hDl]; omega
      conv => cbv
      exact .inl ⟨fun _ => b1c, hk⟩

set_option maxHeartbeats 1000000 in
theorem playLentHashesO_sound : Sound Tryd.prog 46 fun args k => ∃ (l : List (List Int)) (sl : List (List PS)), args = [.s (.sl (l.map key) sl)] ∧ l.length ≤ 2 ^ 40 ∧ k [.s (.ow (l.map key) 59 32 32)] := by
  refine Sound.of_bodyO [] 0 tt_ok ent_ok Tryd.func46 rfl ?_
  rintro ar har Γ hΓ args k ⟨l, sl, rfl, hl, hk⟩
  obtain ⟨D, hD⟩ : ∃ D, D = l.map key := ⟨_, rfl⟩
  have hDl : ar.len D = (l.length : Int) := by rw [lenIs har, hD, List.length_map]
  have hDn : D.length = l.length := by rw [hD, List.length_map]
  have hD1 : ∀ y ∈ D, rlen y = 32 := by rw [hD]; exact key_all l
  have hap : ar.app [] D = D := by rw [appIs har]; rfl
  rw [← hD] at hk ⊢
  have e1 : ar.mid (ar.app (ar.app [] D) [key mkH, key mkH]) 0 (ar.nat (ar.len D)) = D := by rw [natOf har hDl, midIs har, appIs har, appIs har, ← hDn]; simp
  have e2 : ar.frm (ar.app (ar.app [] D) [key mkH, key mkH]) (ar.nat (ar.len D)) = [key mkH, key mkH] := by rw [natOf har hDl, frmIs har, appIs har, appIs har, ← hDn]; simp
  have hk2 : k [.s (.ow (ar.mid (ar.app (ar.app [] D) [key mkH, key mkH]) 0 (ar.nat (ar.len D))) 59 32 32)] := by rw [e1]; exact hk
  have s1 : (0 + D.length) * 32 ≤ 140737488355328 := by omega
  have s2 : ((ar.app [] D).length + [key mkH, key mkH].length) * 32 ≤ 140737488355328 := by rw [hap]; simp; omega
  have s3 : ∀ y ∈ [key mkH, key mkH], rlen y = 32 := by intro y hy; simp at hy; rw [hy]; rfl
  have s4 : 0 ≤ ar.len D ∧ ar.len D ≤ (((ar.app (ar.app [] D) [key mkH, key mkH]).length : Nat) : Int) := by rw [appIs har, appIs har, hDl]; simp; omega
  conv => cbv
  exact ⟨fun _ => ⟨s1, hD1⟩, fun _ => ⟨s2, s3⟩, .inl ⟨fun _ => s4, hk2⟩⟩

/-- What twin answers, its lists own ones. -/
def Tx.lentO (t : Tx) : List PS :=
  [.c (.v (.int .i64 t.ty)), .c (.v (.int .u64 t.ch)), .c (.v (.int .u64 t.no)), .r 4 (w4 t.pr), .r 4 (w4 t.ti), .r 4 (w4 t.ca), .c (.v (.int .u64 t.ga)), .c (.v (.bool t.cr)), .r 20 (u8s t.to), .r 4 (w4 t.va), .c (.ow (t.d.map b8') 5 1 1), .c (.ow ((t.ac.map Ent.lent).map Ent.row) 57 21 48), .r 4 (w4 t.bc), .c (.ow (t.bl.map key) 59 32 32), .c (.ow (t.au.map Au.row) 69 34 136), .r 4 (w4 t.v), .r 4 (w4 t.r), .r 4 (w4 t.s)]

theorem playLentTxO_sound : Sound Tryd.prog 26 fun args k => ∃ t : Tx, args = [.a t.row] ∧ t.small ∧ k [.ao t.lentO] := by
  refine Sound.of_bodyO [] 0 tt_ok ent_ok Tryd.func26 rfl ?_
  rintro ar har Γ hΓ args k ⟨⟨tty, tch, tno, tpr, tti, tca, tga, tcr, tto, tva, td, tsd, tac, tsac, tbc, tbl, tsbl, tau, tsau, tv, tr, ts⟩, hargs, hs, hk⟩
  obtain ⟨tWpr, thWpr⟩ : ∃ x, x = w4 tpr := ⟨_, rfl⟩
  obtain ⟨tWti, thWti⟩ : ∃ x, x = w4 tti := ⟨_, rfl⟩
  obtain ⟨tWca, thWca⟩ : ∃ x, x = w4 tca := ⟨_, rfl⟩
  obtain ⟨tWva, thWva⟩ : ∃ x, x = w4 tva := ⟨_, rfl⟩
  obtain ⟨tWbc, thWbc⟩ : ∃ x, x = w4 tbc := ⟨_, rfl⟩
  obtain ⟨tWv, thWv⟩ : ∃ x, x = w4 tv := ⟨_, rfl⟩
  obtain ⟨tWr, thWr⟩ : ∃ x, x = w4 tr := ⟨_, rfl⟩
  obtain ⟨tWs, thWs⟩ : ∃ x, x = w4 ts := ⟨_, rfl⟩
  obtain ⟨tWto, thWto⟩ : ∃ x, x = u8s tto := ⟨_, rfl⟩
  obtain ⟨tD, thD⟩ : ∃ x, x = td.map b8' := ⟨_, rfl⟩
  obtain ⟨tA, thA⟩ : ∃ x, x = tac.map Ent.row := ⟨_, rfl⟩
  obtain ⟨tB, thB⟩ : ∃ x, x = tbl.map key := ⟨_, rfl⟩
  obtain ⟨tU, thU⟩ : ∃ x, x = tau.map Au.row := ⟨_, rfl⟩
  obtain ⟨tIch, thIch⟩ : ∃ x : Int, x = (tch : Int) := ⟨_, rfl⟩
  obtain ⟨tIno, thIno⟩ : ∃ x : Int, x = (tno : Int) := ⟨_, rfl⟩
  obtain ⟨tIga, thIga⟩ : ∃ x : Int, x = (tga : Int) := ⟨_, rfl⟩
  have trow : Tx.row ⟨tty, tch, tno, tpr, tti, tca, tga, tcr, tto, tva, td, tsd, tac, tsac, tbc, tbl, tsbl, tau, tsau, tv, tr, ts⟩ = [.c (.v (.int .i64 tty)), .c (.v (.int .u64 tIch)), .c (.v (.int .u64 tIno)), .r 4 tWpr, .r 4 tWti, .r 4 tWca, .c (.v (.int .u64 tIga)), .c (.v (.bool tcr)), .r 20 tWto, .r 4 tWva, .c (.sl tD tsd), .c (.sl tA tsac), .r 4 tWbc, .c (.sl tB tsbl), .c (.sl tU tsau), .r 4 tWv, .r 4 tWr, .r 4 tWs] := by rw [thWpr, thWti, thWca, thWva, thWbc, thWv, thWr, thWs, thWto, thD, thA, thB, thU, thIch, thIno, thIga]; rfl
  rw [trow] at hargs
  obtain ⟨R, hR⟩ : ∃ R, R = a5s := ⟨_, rfl⟩
  obtain ⟨M, hM⟩ : ∃ M, M = [key mkH, key mkH] := ⟨_, rfl⟩
  have hAl : ar.len tA = (tac.length : Int) := by rw [lenIs har, thA, List.length_map]
  have hUl : ar.len tU = (tau.length : Int) := by rw [lenIs har, thU, List.length_map]
  have hUn : tU.length = tau.length := by rw [thU, List.length_map]
  have hU1 : ∀ y ∈ tU, rlen y = 34 := by
    rw [thU]; intro y hy; rw [List.mem_map] at hy; obtain ⟨x, _, rfl⟩ := hy; rfl
  have sd := hs.d
  have sac := hs.ac
  have sks := hs.ks
  have sbl := hs.bl
  have sau := hs.au
  simp only at sd sac sks sbl sau
  have callL : ∀ (Γ : Ctx) (d' : Nat) (k : List PR → Prop) (Q : Prop), Γ = ctx Tryd.prog d' → k [.s (.ow tD 5 1 1)] → Γ.g 45 [.s (.sl tD tsd)] k ∨ Q := fun Γ d' k Q hΓ hk => call_by hΓ playLentO_sound ⟨td, tsd, by rw [thD], by omega, by rw [thD] at hk; exact hk⟩
  have callH : ∀ (Γ : Ctx) (d' : Nat) (k : List PR → Prop) (Q : Prop), Γ = ctx Tryd.prog d' → k [.s (.ow tB 59 32 32)] → Γ.g 46 [.s (.sl tB tsbl)] k ∨ Q := fun Γ d' k Q hΓ hk => call_by hΓ playLentHashesO_sound ⟨tbl, tsbl, by rw [thB], by omega, by rw [thB] at hk; exact hk⟩
  obtain ⟨mau, hmau⟩ : ∃ m, m = mkAu.row := ⟨_, rfl⟩
  have hap : ar.app [] tU = tU := by rw [appIs har]; rfl
  have s1 : (0 + tU.length) * 136 ≤ 140737488355328 := by omega
  have s2 : ((ar.app [] tU).length + [mkAu.row, mkAu.row].length) * 136 ≤ 140737488355328 := by rw [hap]; simp; omega
  have s3 : ∀ y ∈ [mkAu.row, mkAu.row], rlen y = 34 := by intro y hy; simp at hy; rw [hy]; rfl
  have s4 : 0 ≤ ar.len tU ∧ ar.len tU ≤ (((ar.app (ar.app [] tU) [mkAu.row, mkAu.row]).length : Nat) : Int) := by rw [appIs har, appIs har, hUl]; simp; omega
  subst hargs
  conv => cbv
  refine callL _ _ _ _ hΓ ?_
  conv => cbv
  refine callH _ _ _ _ hΓ ?_
  conv => cbv
  refine ⟨fun _ => ⟨s1, hU1⟩, fun _ => ⟨s2, s3⟩, .inl ⟨fun _ => s4, ?_⟩⟩
  have f1 : ar.mid (ar.app (ar.app [] tU) [mkAu.row, mkAu.row]) 0 (ar.nat (ar.len tU)) = tU := by rw [natOf har hUl, midIs har, appIs har, appIs har, ← hUn]; simp
  have f2 : ar.frm (ar.app (ar.app [] tU) [mkAu.row, mkAu.row]) (ar.nat (ar.len tU)) = [mkAu.row, mkAu.row] := by rw [natOf har hUl, frmIs har, appIs har, appIs har, ← hUn]; simp
  obtain ⟨AL, hAL⟩ : ∃ L, L = (tac.map Ent.lent).map Ent.row := ⟨_, rfl⟩
  have hfin : Tx.lentO ⟨tty, tch, tno, tpr, tti, tca, tga, tcr, tto, tva, td, tsd, tac, tsac, tbc, tbl, tsbl, tau, tsau, tv, tr, ts⟩ = [.c (.v (.int .i64 tty)), .c (.v (.int .u64 tIch)), .c (.v (.int .u64 tIno)), .r 4 tWpr, .r 4 tWti, .r 4 tWca, .c (.v (.int .u64 tIga)), .c (.v (.bool tcr)), .r 20 tWto, .r 4 tWva, .c (.ow tD 5 1 1), .c (.ow AL 57 21 48), .r 4 tWbc, .c (.ow tB 59 32 32), .c (.ow tU 69 34 136), .r 4 tWv, .r 4 tWr, .r 4 tWs] := by rw [hAL, thWpr, thWti, thWca, thWva, thWbc, thWv, thWr, thWs, thWto, thD, thB, thU, thIch, thIno, thIga]; rfl
  rw [hfin] at hk
  refine .inr ⟨{ q : Nat × Int × List (List PS) × List (List PS) × List (List PS) // q.1 ≤ tac.length ∧ q.2.1 = q.1 ∧ q.2.2.1 = ((tac.take q.1).map Ent.lent).map Ent.row ∧ q.2.2.2.1 = tU ∧ q.2.2.2.2 = [mkAu.row, mkAu.row] },
    fun q => ⟨mk 69 [(1, .s (.ptr 0 0)), (2, .s (.ptr 1 0)), (3, .s (.ptr 2 0)), (5, .s (.own 7)), (6, pint q.1.2.1)], [.box [.c (.p (.v (.int .i64 tty))), .c (.p (.v (.int .u64 tIch))), .c (.p (.v (.int .u64 tIno))), .r 4 tWpr, .r 4 tWti, .r 4 tWca, .c (.p (.v (.int .u64 tIga))), .c (.p (.v (.bool tcr))), .r 20 tWto, .r 4 tWva, .c (.p (.sl tD tsd)), .c (.p (.sl tA tsac)), .r 4 tWbc, .c (.p (.sl tB tsbl)), .c (.p (.sl tU tsau)), .r 4 tWv, .r 4 tWr, .r 4 tWs], .box [.c (.lit .i64 0), .c (.lit .u64 0), .c (.lit .u64 0), .r 4 (w4 0), .r 4 (w4 0), .r 4 (w4 0), .c (.lit .u64 0), .c (.bl false), .r 20 (u8s (List.replicate 20 0)), .r 4 (w4 0), .c .nil, .c .nil, .r 4 (w4 0), .c .nil, .c .nil, .r 4 (w4 0), .r 4 (w4 0), .r 4 (w4 0)], .box [.c (.p (.v (.int .i64 tty))), .c (.p (.v (.int .u64 tIch))), .c (.p (.v (.int .u64 tIno))), .r 4 tWpr, .r 4 tWti, .r 4 tWca, .c (.p (.v (.int .u64 tIga))), .c (.p (.v (.bool tcr))), .r 20 tWto, .r 4 tWva, .c (.own 3), .c (.p (.sl tA tsac)), .r 4 tWbc, .c (.own 4), .c (.own 5), .r 4 tWv, .r 4 tWr, .r 4 tWs], .arr tD 5 1 1 true, .arr tB 59 32 32 true, .arr q.1.2.2.2.1 69 34 136 true, .gone, .arr q.1.2.2.1 57 21 48 true]⟩,
    fun q => tac.length - q.1.1, [.slot 5 57], _, ⟨(0, 0, [], ar.mid (ar.app (ar.app [] tU) [mkAu.row, mkAu.row]) 0 (ar.nat (ar.len tU)), ar.frm (ar.app (ar.app [] tU) [mkAu.row, mkAu.row]) (ar.nat (ar.len tU))), Nat.zero_le _, rfl, rfl, f1, f2⟩, rfl, ?_, ?_⟩
  · conv => cbv
    simp
  · rintro ⟨⟨p, pi, L, P1, Q1⟩, hq⟩
    have hp : p ≤ tac.length := hq.1
    have hpi : pi = (p : Int) := hq.2.1
    have hL : L = ((tac.take p).map Ent.lent).map Ent.row := hq.2.2.1
    have hP1 : P1 = tU := hq.2.2.2.1
    have hQ1 : Q1 = [mkAu.row, mkAu.row] := hq.2.2.2.2
    have hLl : L.length = p := by rw [hL]; simp; omega
    dsimp only
    conv => cbv
    refine ⟨fun h => ?_, fun h => ?_⟩
    · have g' := cLt har (b := ar.len tA) h
      have hlt : p < tac.length := by omega
      obtain ⟨x, hx⟩ : ∃ x, tac[p]? = some x := ⟨_, List.getElem?_eq_getElem hlt⟩
      have hxk := sks x (List.mem_of_getElem? hx)
      have hL2 : ((tac.take (p + 1)).map Ent.lent).map Ent.row = L ++ [x.lent.row] := by rw [hL, List.take_add_one, hx]; simp
      obtain ⟨xa, xk, xs1⟩ := x
      obtain ⟨xv, hxv⟩ : ∃ v, v = u8s xa := ⟨_, rfl⟩
      obtain ⟨xl, hxl⟩ : ∃ v, v = xk.map key := ⟨_, rfl⟩
      have hrw : (Ent.mk xa xk xs1).lent.row = [.r 20 xv, .c (.sl xl M)] := by rw [hxv, hxl, hM]; rfl
      rw [hrw] at hL2
      have rx : tA[pi.toNat]? = some [.r 20 xv, .c (.sl xl xs1)] := by rw [thA, hpi]; simp [hx, Ent.row, hxv, hxl]
      have callK : ∀ (Γ : Ctx) (d' : Nat) (k : List PR → Prop), Γ = ctx Tryd.prog d' → k [.s (.sl xl M)] → Γ.g 46 [.s (.sl xl xs1)] k := fun Γ d' k hΓ hk => call_by' hΓ playLentHashes_sound ⟨xk, xs1, by rw [hxl], by simp only at hxk; omega, by rw [hM, hxl] at hk; exact hk⟩
      have t1 : (L.length + 1) * 48 ≤ 140737488355328 ∧ ∀ y ∈ [[PS.r 20 xv, .c (.sl xl M)]], rlen y = 21 := ⟨by omega, by simp [rlen, PS.len]⟩
      conv => cbv
      refine ⟨by rw [har]; kernel_rfl, ?_⟩
      refine ⟨_, by omega, rx, rfl, ?_⟩
      conv => cbv
      refine ⟨_, by omega, rx, rfl, ?_⟩
      conv => cbv
      refine callK _ _ _ hΓ ?_
      conv => cbv
      refine ⟨fun _ => t1, ?_⟩
      refine ⟨⟨(p + 1, ar.ib .add .i64 pi 1, ar.app L [[.r 20 xv, .c (.sl xl M)]], P1, Q1), hlt, iSucc har hpi (by omega), by rw [appIs har, hL2], hP1, hQ1⟩, ?_, ?_⟩
      · dsimp only
        conv => cbv
        simp
      · show tac.length - (p + 1) < tac.length - p
        omega
    · have g' := cNlt har (b := ar.len tA) h
      have hpe : p = tac.length := by omega
      have hLA : L = AL := by rw [hL, hpe, List.take_length, hAL]
      have hLn : L.length = tac.length := by omega
      have u1 : (L.length + [mkE.row, mkE.row].length) * 48 ≤ 140737488355328 := by simp; omega
      have u2 : ∀ y ∈ [mkE.row, mkE.row], rlen y = 21 := by intro y hy; simp at hy; rw [hy]; rfl
      have u3 : 0 ≤ ar.len tA ∧ ar.len tA ≤ (((ar.app L [mkE.row, mkE.row]).length : Nat) : Int) := by rw [appIs har, hAl]; simp; omega
      have f3 : ar.mid (ar.app L [mkE.row, mkE.row]) 0 (ar.nat (ar.len tA)) = AL := by rw [natOf har hAl, midIs har, appIs har, ← hLA, ← hLn]; simp
      have f4 : ar.frm (ar.app L [mkE.row, mkE.row]) (ar.nat (ar.len tA)) = [mkE.row, mkE.row] := by rw [natOf har hAl, frmIs har, appIs har, ← hLn]; simp
      rw [← f3, ← hP1] at hk
      conv => cbv
      refine ⟨fun _ => ⟨u1, u2⟩, .inl ⟨fun _ => u3, ?_⟩⟩
      exact hk


theorem twin15O_sound : Sound Tryd.prog 9 fun args k => ∃ t : Tx, args = [.a t.row] ∧ t.small ∧ k [.ao t.lentO] := by
  refine Sound.of_bodyO [] 0 tt_ok ent_ok Tryd.func9 rfl ?_
  rintro ar har Γ hΓ args k ⟨t, hargs, hs, hk⟩
  obtain ⟨ty, ch, no, pr, ti, ca, ga, cr, to, va, D, sd, A, sa, bc, B, sb, U, su, v, r, s, LA, hrow, hlrow⟩ : ∃ (ty ch no : Int) (pr ti ca : List Value) (ga : Int) (cr : Bool) (to va : List Value) (D sd A sa : List (List PS)) (bc : List Value) (B sb U su : List (List PS)) (v r s : List Value) (LA : List (List PS)), t.row = txRow ty ch no pr ti ca ga cr to va D sd A sa bc B sb U su v r s ∧
      t.lentO = [.c (.v (.int .i64 ty)), .c (.v (.int .u64 ch)), .c (.v (.int .u64 no)), .r 4 pr, .r 4 ti, .r 4 ca, .c (.v (.int .u64 ga)), .c (.v (.bool cr)), .r 20 to, .r 4 va, .c (.ow D 5 1 1), .c (.ow LA 57 21 48), .r 4 bc, .c (.ow B 59 32 32), .c (.ow U 69 34 136), .r 4 v, .r 4 r, .r 4 s] := ⟨_, _, _, _, _, _, _, _, _, _, _, _, _, _, _, _, _, _, _, _, _, _, _, rfl, rfl⟩
  have callL : ∀ (Γ : Ctx) (d' : Nat) (k : List PR → Prop) (Q : Prop), Γ = ctx Tryd.prog d' → k [.ao [.c (.v (.int .i64 ty)), .c (.v (.int .u64 ch)), .c (.v (.int .u64 no)), .r 4 pr, .r 4 ti, .r 4 ca, .c (.v (.int .u64 ga)), .c (.v (.bool cr)), .r 20 to, .r 4 va, .c (.ow D 5 1 1), .c (.ow LA 57 21 48), .r 4 bc, .c (.ow B 59 32 32), .c (.ow U 69 34 136), .r 4 v, .r 4 r, .r 4 s]] → Γ.g 26 [.a [.c (.v (.int .i64 ty)), .c (.v (.int .u64 ch)), .c (.v (.int .u64 no)), .r 4 pr, .r 4 ti, .r 4 ca, .c (.v (.int .u64 ga)), .c (.v (.bool cr)), .r 20 to, .r 4 va, .c (.sl D sd), .c (.sl A sa), .r 4 bc, .c (.sl B sb), .c (.sl U su), .r 4 v, .r 4 r, .r 4 s]] k ∨ Q := fun Γ d' k Q hΓ hk => call_by hΓ playLentTxO_sound ⟨t, by rw [hrow]; rfl, hs, by rw [hlrow]; exact hk⟩
  rw [hlrow] at hk
  rw [hrow] at hargs
  clear hrow hlrow
  subst hargs
  conv => cbv
  refine callL _ _ _ _ hΓ ?_
  conv => cbv
  exact hk
end Go.Eng
namespace Go.Eng
open Go Go.Proofs
set_option maxRecDepth 100000
set_option maxHeartbeats 8000000
set_option linter.unusedVariables false

theorem bv64 {x : Int} (hx : 0 ≤ x ∧ x < 18446744073709551616) : (BitVec.ofInt 64 x).toNat = x.toNat := by
  simp only [BitVec.toNat_ofInt]; omega
theorem bv8 {x : Int} (hx : 0 ≤ x ∧ x < 256) : (BitVec.ofInt 8 x).toNat = x.toNat := by
  simp only [BitVec.toNat_ofInt]; omega
theorem bvNe {n : Nat} {a b : BitVec n} (h : a ^^^ b = a) : b = 0#n := by
  have h2 := congrArg (a ^^^ ·) h
  simpa [← BitVec.xor_assoc] using h2
theorem xorU64 {ar : Ar} (har : ar = arS) {x c : Int} (hx : 0 ≤ x ∧ x < 18446744073709551616) (hc : 0 < c ∧ c < 18446744073709551616) : (0 ≤ ar.ib .xor .u64 x c ∧ ar.ib .xor .u64 x c < 18446744073709551616) ∧ ar.ib .xor .u64 x c ≠ x := by
  rw [iIs har]
  show (0 ≤ IntKind.u64.wrap ((BitVec.ofInt 64 x ^^^ BitVec.ofInt 64 c).toNat : Int) ∧ IntKind.u64.wrap ((BitVec.ofInt 64 x ^^^ BitVec.ofInt 64 c).toNat : Int) < _) ∧ IntKind.u64.wrap ((BitVec.ofInt 64 x ^^^ BitVec.ofInt 64 c).toNat : Int) ≠ x
  rw [u64Wrap]
  have hb := (BitVec.ofInt 64 x ^^^ BitVec.ofInt 64 c).isLt
  have h1 := bv64 hx
  have h3 := bv64 (x := c) (by omega)
  refine ⟨by omega, fun e => ?_⟩
  have h4 : BitVec.ofInt 64 x ^^^ BitVec.ofInt 64 c = BitVec.ofInt 64 x := BitVec.eq_of_toNat_eq (by omega)
  have h5 := congrArg BitVec.toNat (bvNe h4)
  simp at h5
  omega
theorem xorU8 {ar : Ar} (har : ar = arS) {x c : Int} (hx : 0 ≤ x ∧ x < 256) (hc : 0 < c ∧ c < 256) : (0 ≤ ar.ib .xor .u8 x c ∧ ar.ib .xor .u8 x c < 256) ∧ ar.ib .xor .u8 x c ≠ x := by
  rw [iIs har]
  show (0 ≤ IntKind.u8.wrap ((BitVec.ofInt 8 x ^^^ BitVec.ofInt 8 c).toNat : Int) ∧ IntKind.u8.wrap ((BitVec.ofInt 8 x ^^^ BitVec.ofInt 8 c).toNat : Int) < _) ∧ IntKind.u8.wrap ((BitVec.ofInt 8 x ^^^ BitVec.ofInt 8 c).toNat : Int) ≠ x
  rw [u8Wrap]
  have hb := (BitVec.ofInt 8 x ^^^ BitVec.ofInt 8 c).isLt
  have h1 := bv8 hx
  have h3 := bv8 (x := c) (by omega)
  refine ⟨by omega, fun e => ?_⟩
  have h4 : BitVec.ofInt 8 x ^^^ BitVec.ofInt 8 c = BitVec.ofInt 8 x := BitVec.eq_of_toNat_eq (by omega)
  have h5 := congrArg BitVec.toNat (bvNe h4)
  simp at h5
  omega
theorem xorN {ar : Ar} (har : ar = arS) {I : Int} {n : Nat} (hI : I = (n : Int)) (h : n < 18446744073709551616) (c : Int) (hc : 0 < c ∧ c < 18446744073709551616) : ∃ m : Nat, ar.ib .xor .u64 I c = (m : Int) ∧ m < 18446744073709551616 ∧ m ≠ n := by
  obtain ⟨⟨h1, h2⟩, h3⟩ := xorU64 har (x := I) (c := c) (by omega) hc
  exact ⟨(ar.ib .xor .u64 I c).toNat, by omega, by omega, by omega⟩
theorem v4_ne0 {m a b c d : Nat} (h : m ≠ a) : v4 m b c d ≠ v4 a b c d := by unfold v4; omega
theorem v4_ne1 {m a b c d : Nat} (h : m ≠ b) : v4 a m c d ≠ v4 a b c d := by unfold v4; omega
theorem v4_ne2 {m a b c d : Nat} (h : m ≠ c) : v4 a b m d ≠ v4 a b c d := by unfold v4; omega
theorem v4_ne3 {m a b c d : Nat} (h : m ≠ d) : v4 a b c m ≠ v4 a b c d := by unfold v4; omega
theorem v4_lt {a b c d : Nat} (ha : a < 18446744073709551616) (hb : b < 18446744073709551616) (hc : c < 18446744073709551616) (hd : d < 18446744073709551616) : v4 a b c d < M256 := by unfold v4 M256; omega
theorem addI {ar : Ar} (har : ar = arS) {x : Int} (hx : -9223372036854775808 ≤ x ∧ x ≤ 9223372036854775807) : (-9223372036854775808 ≤ ar.ib .add .i64 x 1 ∧ ar.ib .add .i64 x 1 ≤ 9223372036854775807) ∧ ar.ib .add .i64 x 1 ≠ x := by
  rw [iIs har]
  show (_ ≤ IntKind.i64.wrap (x + 1) ∧ IntKind.i64.wrap (x + 1) ≤ _) ∧ IntKind.i64.wrap (x + 1) ≠ x
  rw [i64Wrap]; omega
/-- The lists' sizes, half of what fits. -/
structure Tx.half (t : Tx) : Prop where
  d : t.d.length ≤ 2 ^ 27
  ac : bulks (esIts t.ac) ≤ 2 ^ 27
  bl : 33 * t.bl.length ≤ 2 ^ 27
  au : bulks (usIts t.au) ≤ 2 ^ 28 - 200
theorem Tx.half.fit {t : Tx} (h : t.half) : t.fit := ⟨by have := h.d; omega, by have := h.ac; omega, by have := h.bl; omega, by have := h.au; omega⟩
theorem half_of {t : Tx} (h : t.d.length ≤ 1048576 ∧ bulks (esIts t.ac) ≤ 34603008 ∧ 33 * t.bl.length ≤ 34603008 ∧ bulks (usIts t.au) ≤ 210763776) : t.half := ⟨by omega, by omega, by omega, by omega⟩
def zE : Ent := ⟨List.replicate 20 0, [], []⟩
def zAuJ : Au := ⟨0, List.replicate 20 0, 0, 0, 0, 0⟩
def h1s : List Int := 1 :: List.replicate 31 0
theorem bulks_app (a b : List It) : bulks (a ++ b) = bulks a + bulks b := by
  induction a with
  | nil => simp [bulks]
  | cons x a ih => simp only [List.cons_append, bulks, ih]; omega
theorem bnd {n b : Nat} (h : n ≤ 2 ^ 36) (hb : b ≤ 136) : (n + 1) * b ≤ 140737488355328 := by
  have := Nat.mul_le_mul (show n + 1 ≤ 2 ^ 36 + 1 by omega) hb
  omega
theorem app1_ne {α : Type} {l : List α} {x : α} (h : l ++ [x] = l) : False := by
  have := congrArg List.length h
  rw [List.length_append, List.length_singleton] at this; omega
theorem len_app1 {d : List Int} (h : d.length ≤ 2 ^ 27) : (d ++ [0]).length ≤ 2 ^ 28 := by
  rw [List.length_append, List.length_singleton]; omega
theorem len_app33 {d : List (List Int)} {x : List Int} (h : 33 * d.length ≤ 2 ^ 27) : 33 * (d ++ [x]).length ≤ 2 ^ 28 := by
  rw [List.length_append, List.length_singleton]; omega
theorem ac_app {l : List Ent} (h : bulks (esIts l) ≤ 2 ^ 27) : bulks (esIts (l ++ [zE])) ≤ 2 ^ 28 := by
  have e : esIts (l ++ [zE]) = esIts l ++ esIts [zE] := by unfold esIts; rw [List.map_append]
  rw [e, bulks_app]
  have h2 : bulks (esIts [zE]) ≤ 100 := by decide
  omega
theorem au_app {l : List Au} (h : bulks (usIts l) ≤ 2 ^ 28 - 200) : bulks (usIts (l ++ [zAuJ])) ≤ 2 ^ 28 := by
  have e : usIts (l ++ [zAuJ]) = usIts l ++ usIts [zAuJ] := by unfold usIts; rw [List.map_append]
  rw [e, bulks_app]
  have h2 : bulks (usIts [zAuJ]) ≤ 200 := by decide
  omega
theorem bytesOk_app2 {a b : List Int} (ha : bytesOk a) (hb : bytesOk b) : bytesOk (a ++ b) := fun x hx => by
  rcases List.mem_append.1 hx with h | h
  · exact ha x h
  · exact hb x h
theorem rep0 (n : Nat) : bytesOk (List.replicate n 0) := fun x hx => by rw [List.mem_replicate] at hx; omega

theorem changed15_sound : Sound Tryd.prog 14 fun args k => ∃ (t : Tx) (M : Int), args = [.a t.row, .s (.v (.int .i64 M))] ∧ t.ok ∧ t.half ∧ ∀ u : Tx, u.ok → u.fit → u.core ≠ t.core → k [.a u.row] := by
  refine Sound.of_body tt_ok ent_ok Tryd.func14 rfl ?_
  rintro ar har Γ hΓ args k ⟨t, M, hargs, ho, hf, hk⟩
  obtain ⟨ty, ch, no, pr, ti, ca, ga, cr, to, va, d, sd, ac, sac, bc, bl, sbl, au, sau, v, r, s⟩ := t
  have hsm := hf.fit.small
  obtain ⟨pr0, pr1, pr2, pr3, hpr0, hpr1, hpr2, hpr3, rfl⟩ := v4_of pr ho.pr
  obtain ⟨ti0, ti1, ti2, ti3, hti0, hti1, hti2, hti3, rfl⟩ := v4_of ti ho.ti
  obtain ⟨ca0, ca1, ca2, ca3, hca0, hca1, hca2, hca3, rfl⟩ := v4_of ca ho.ca
  obtain ⟨va0, va1, va2, va3, hva0, hva1, hva2, hva3, rfl⟩ := v4_of va ho.va
  obtain ⟨bc0, bc1, bc2, bc3, hbc0, hbc1, hbc2, hbc3, rfl⟩ := v4_of bc ho.bc
  obtain ⟨v0, v1, v2, v3, hv0, hv1, hv2, hv3, rfl⟩ := v4_of v ho.v
  obtain ⟨r0, r1, r2, r3, hr0, hr1, hr2, hr3, rfl⟩ := v4_of r ho.r
  obtain ⟨s0, s1, s2, s3, hs0, hs1, hs2, hs3, rfl⟩ := v4_of s ho.s
  obtain ⟨o0, o1, o2, o3, o4, o5, o6, o7, o8, o9, o10, o11, o12, o13, o14, o15, o16, o17, o18, o19, rfl⟩ := list20 to ho.to
  obtain ⟨prI0, hprI0⟩ : ∃ x : Int, x = (pr0 : Int) := ⟨_, rfl⟩
  obtain ⟨prI1, hprI1⟩ : ∃ x : Int, x = (pr1 : Int) := ⟨_, rfl⟩
  obtain ⟨prI2, hprI2⟩ : ∃ x : Int, x = (pr2 : Int) := ⟨_, rfl⟩
  obtain ⟨prI3, hprI3⟩ : ∃ x : Int, x = (pr3 : Int) := ⟨_, rfl⟩
  obtain ⟨tiI0, htiI0⟩ : ∃ x : Int, x = (ti0 : Int) := ⟨_, rfl⟩
  obtain ⟨tiI1, htiI1⟩ : ∃ x : Int, x = (ti1 : Int) := ⟨_, rfl⟩
  obtain ⟨tiI2, htiI2⟩ : ∃ x : Int, x = (ti2 : Int) := ⟨_, rfl⟩
  obtain ⟨tiI3, htiI3⟩ : ∃ x : Int, x = (ti3 : Int) := ⟨_, rfl⟩
  obtain ⟨caI0, hcaI0⟩ : ∃ x : Int, x = (ca0 : Int) := ⟨_, rfl⟩
  obtain ⟨caI1, hcaI1⟩ : ∃ x : Int, x = (ca1 : Int) := ⟨_, rfl⟩
  obtain ⟨caI2, hcaI2⟩ : ∃ x : Int, x = (ca2 : Int) := ⟨_, rfl⟩
  obtain ⟨caI3, hcaI3⟩ : ∃ x : Int, x = (ca3 : Int) := ⟨_, rfl⟩
  obtain ⟨vaI0, hvaI0⟩ : ∃ x : Int, x = (va0 : Int) := ⟨_, rfl⟩
  obtain ⟨vaI1, hvaI1⟩ : ∃ x : Int, x = (va1 : Int) := ⟨_, rfl⟩
  obtain ⟨vaI2, hvaI2⟩ : ∃ x : Int, x = (va2 : Int) := ⟨_, rfl⟩
  obtain ⟨vaI3, hvaI3⟩ : ∃ x : Int, x = (va3 : Int) := ⟨_, rfl⟩
  obtain ⟨bcI0, hbcI0⟩ : ∃ x : Int, x = (bc0 : Int) := ⟨_, rfl⟩
  obtain ⟨bcI1, hbcI1⟩ : ∃ x : Int, x = (bc1 : Int) := ⟨_, rfl⟩
  obtain ⟨bcI2, hbcI2⟩ : ∃ x : Int, x = (bc2 : Int) := ⟨_, rfl⟩
  obtain ⟨bcI3, hbcI3⟩ : ∃ x : Int, x = (bc3 : Int) := ⟨_, rfl⟩
  obtain ⟨vI0, hvI0⟩ : ∃ x : Int, x = (v0 : Int) := ⟨_, rfl⟩
  obtain ⟨vI1, hvI1⟩ : ∃ x : Int, x = (v1 : Int) := ⟨_, rfl⟩
  obtain ⟨vI2, hvI2⟩ : ∃ x : Int, x = (v2 : Int) := ⟨_, rfl⟩
  obtain ⟨vI3, hvI3⟩ : ∃ x : Int, x = (v3 : Int) := ⟨_, rfl⟩
  obtain ⟨rI0, hrI0⟩ : ∃ x : Int, x = (r0 : Int) := ⟨_, rfl⟩
  obtain ⟨rI1, hrI1⟩ : ∃ x : Int, x = (r1 : Int) := ⟨_, rfl⟩
  obtain ⟨rI2, hrI2⟩ : ∃ x : Int, x = (r2 : Int) := ⟨_, rfl⟩
  obtain ⟨rI3, hrI3⟩ : ∃ x : Int, x = (r3 : Int) := ⟨_, rfl⟩
  obtain ⟨sI0, hsI0⟩ : ∃ x : Int, x = (s0 : Int) := ⟨_, rfl⟩
  obtain ⟨sI1, hsI1⟩ : ∃ x : Int, x = (s1 : Int) := ⟨_, rfl⟩
  obtain ⟨sI2, hsI2⟩ : ∃ x : Int, x = (s2 : Int) := ⟨_, rfl⟩
  obtain ⟨sI3, hsI3⟩ : ∃ x : Int, x = (s3 : Int) := ⟨_, rfl⟩
  obtain ⟨Ich, hIch⟩ : ∃ x : Int, x = (ch : Int) := ⟨_, rfl⟩
  obtain ⟨Ino, hIno⟩ : ∃ x : Int, x = (no : Int) := ⟨_, rfl⟩
  obtain ⟨Iga, hIga⟩ : ∃ x : Int, x = (ga : Int) := ⟨_, rfl⟩
  obtain ⟨D, hD⟩ : ∃ x, x = d.map b8' := ⟨_, rfl⟩
  obtain ⟨A, hA⟩ : ∃ x, x = ac.map Ent.row := ⟨_, rfl⟩
  obtain ⟨LA, hLA⟩ : ∃ x, x = (ac.map Ent.lent).map Ent.row := ⟨_, rfl⟩
  obtain ⟨B, hB⟩ : ∃ x, x = bl.map key := ⟨_, rfl⟩
  obtain ⟨U, hU⟩ : ∃ x, x = au.map Au.row := ⟨_, rfl⟩
  have trow : Tx.row (Tx.mk ty ch no (v4 pr0 pr1 pr2 pr3) (v4 ti0 ti1 ti2 ti3) (v4 ca0 ca1 ca2 ca3) ga cr [o0, o1, o2, o3, o4, o5, o6, o7, o8, o9, o10, o11, o12, o13, o14, o15, o16, o17, o18, o19] (v4 va0 va1 va2 va3) d sd ac sac (v4 bc0 bc1 bc2 bc3) bl sbl au sau (v4 v0 v1 v2 v3) (v4 r0 r1 r2 r3) (v4 s0 s1 s2 s3)) = [.c (.v (.int .i64 ty)), .c (.v (.int .u64 Ich)), .c (.v (.int .u64 Ino)), .r 4 [.int .u64 prI0, .int .u64 prI1, .int .u64 prI2, .int .u64 prI3], .r 4 [.int .u64 tiI0, .int .u64 tiI1, .int .u64 tiI2, .int .u64 tiI3], .r 4 [.int .u64 caI0, .int .u64 caI1, .int .u64 caI2, .int .u64 caI3], .c (.v (.int .u64 Iga)), .c (.v (.bool cr)), .r 20 [.int .u8 o0, .int .u8 o1, .int .u8 o2, .int .u8 o3, .int .u8 o4, .int .u8 o5, .int .u8 o6, .int .u8 o7, .int .u8 o8, .int .u8 o9, .int .u8 o10, .int .u8 o11, .int .u8 o12, .int .u8 o13, .int .u8 o14, .int .u8 o15, .int .u8 o16, .int .u8 o17, .int .u8 o18, .int .u8 o19], .r 4 [.int .u64 vaI0, .int .u64 vaI1, .int .u64 vaI2, .int .u64 vaI3], .c (.sl D sd), .c (.sl A sac), .r 4 [.int .u64 bcI0, .int .u64 bcI1, .int .u64 bcI2, .int .u64 bcI3], .c (.sl B sbl), .c (.sl U sau), .r 4 [.int .u64 vI0, .int .u64 vI1, .int .u64 vI2, .int .u64 vI3], .r 4 [.int .u64 rI0, .int .u64 rI1, .int .u64 rI2, .int .u64 rI3], .r 4 [.int .u64 sI0, .int .u64 sI1, .int .u64 sI2, .int .u64 sI3]] := by
    show txRow _ _ _ (w4 _) (w4 _) (w4 _) _ _ _ (w4 _) _ _ _ _ (w4 _) _ _ _ _ (w4 _) (w4 _) (w4 _) = _
    rw [w4_v4 hpr0 hpr1 hpr2 hpr3, w4_v4 hti0 hti1 hti2 hti3, w4_v4 hca0 hca1 hca2 hca3, w4_v4 hva0 hva1 hva2 hva3, w4_v4 hbc0 hbc1 hbc2 hbc3, w4_v4 hv0 hv1 hv2 hv3, w4_v4 hr0 hr1 hr2 hr3, w4_v4 hs0 hs1 hs2 hs3]
    simp only [hprI0, hprI1, hprI2, hprI3, htiI0, htiI1, htiI2, htiI3, hcaI0, hcaI1, hcaI2, hcaI3, hvaI0, hvaI1, hvaI2, hvaI3, hbcI0, hbcI1, hbcI2, hbcI3, hvI0, hvI1, hvI2, hvI3, hrI0, hrI1, hrI2, hrI3, hsI0, hsI1, hsI2, hsI3, hIch, hIno, hIga, hD, hLA, hB, hU, hA]
    rfl
  have lrow : Tx.lentO (Tx.mk ty ch no (v4 pr0 pr1 pr2 pr3) (v4 ti0 ti1 ti2 ti3) (v4 ca0 ca1 ca2 ca3) ga cr [o0, o1, o2, o3, o4, o5, o6, o7, o8, o9, o10, o11, o12, o13, o14, o15, o16, o17, o18, o19] (v4 va0 va1 va2 va3) d sd ac sac (v4 bc0 bc1 bc2 bc3) bl sbl au sau (v4 v0 v1 v2 v3) (v4 r0 r1 r2 r3) (v4 s0 s1 s2 s3)) = [.c (.v (.int .i64 ty)), .c (.v (.int .u64 Ich)), .c (.v (.int .u64 Ino)), .r 4 [.int .u64 prI0, .int .u64 prI1, .int .u64 prI2, .int .u64 prI3], .r 4 [.int .u64 tiI0, .int .u64 tiI1, .int .u64 tiI2, .int .u64 tiI3], .r 4 [.int .u64 caI0, .int .u64 caI1, .int .u64 caI2, .int .u64 caI3], .c (.v (.int .u64 Iga)), .c (.v (.bool cr)), .r 20 [.int .u8 o0, .int .u8 o1, .int .u8 o2, .int .u8 o3, .int .u8 o4, .int .u8 o5, .int .u8 o6, .int .u8 o7, .int .u8 o8, .int .u8 o9, .int .u8 o10, .int .u8 o11, .int .u8 o12, .int .u8 o13, .int .u8 o14, .int .u8 o15, .int .u8 o16, .int .u8 o17, .int .u8 o18, .int .u8 o19], .r 4 [.int .u64 vaI0, .int .u64 vaI1, .int .u64 vaI2, .int .u64 vaI3], .c (.ow D 5 1 1), .c (.ow LA 57 21 48), .r 4 [.int .u64 bcI0, .int .u64 bcI1, .int .u64 bcI2, .int .u64 bcI3], .c (.ow B 59 32 32), .c (.ow U 69 34 136), .r 4 [.int .u64 vI0, .int .u64 vI1, .int .u64 vI2, .int .u64 vI3], .r 4 [.int .u64 rI0, .int .u64 rI1, .int .u64 rI2, .int .u64 rI3], .r 4 [.int .u64 sI0, .int .u64 sI1, .int .u64 sI2, .int .u64 sI3]] := by
    unfold Tx.lentO
    simp only
    rw [w4_v4 hpr0 hpr1 hpr2 hpr3, w4_v4 hti0 hti1 hti2 hti3, w4_v4 hca0 hca1 hca2 hca3, w4_v4 hva0 hva1 hva2 hva3, w4_v4 hbc0 hbc1 hbc2 hbc3, w4_v4 hv0 hv1 hv2 hv3, w4_v4 hr0 hr1 hr2 hr3, w4_v4 hs0 hs1 hs2 hs3]
    simp only [hprI0, hprI1, hprI2, hprI3, htiI0, htiI1, htiI2, htiI3, hcaI0, hcaI1, hcaI2, hcaI3, hvaI0, hvaI1, hvaI2, hvaI3, hbcI0, hbcI1, hbcI2, hbcI3, hvI0, hvI1, hvI2, hvI3, hrI0, hrI1, hrI2, hrI3, hsI0, hsI1, hsI2, hsI3, hIch, hIno, hIga, hD, hLA, hB, hU]
    rfl
  have hoac : ∀ e ∈ ac.map Ent.lent, e.a.length = 20 ∧ bytesOk e.a ∧ ∀ w ∈ e.ks, w.length = 32 ∧ bytesOk w := fun e he => by
    simp only [List.mem_map] at he
    obtain ⟨x, hx, rfl⟩ := he
    exact ho.ac x hx
  have ho0 : Tx.ok ⟨ty, ch, no, (v4 pr0 pr1 pr2 pr3), (v4 ti0 ti1 ti2 ti3), (v4 ca0 ca1 ca2 ca3), ga, cr, [o0, o1, o2, o3, o4, o5, o6, o7, o8, o9, o10, o11, o12, o13, o14, o15, o16, o17, o18, o19], (v4 va0 va1 va2 va3), d, [], (ac.map Ent.lent), [], (v4 bc0 bc1 bc2 bc3), bl, [], au, [], (v4 v0 v1 v2 v3), (v4 r0 r1 r2 r3), (v4 s0 s1 s2 s3)⟩ := { ho with ac := hoac }
  have hac : esIts (ac.map Ent.lent) = esIts ac := by unfold esIts; rw [List.map_map]; rfl
  have hf0 : Tx.fit ⟨ty, ch, no, (v4 pr0 pr1 pr2 pr3), (v4 ti0 ti1 ti2 ti3), (v4 ca0 ca1 ca2 ca3), ga, cr, [o0, o1, o2, o3, o4, o5, o6, o7, o8, o9, o10, o11, o12, o13, o14, o15, o16, o17, o18, o19], (v4 va0 va1 va2 va3), d, [], (ac.map Ent.lent), [], (v4 bc0 bc1 bc2 bc3), bl, [], au, [], (v4 v0 v1 v2 v3), (v4 r0 r1 r2 r3), (v4 s0 s1 s2 s3)⟩ := ⟨hf.fit.d, by show bulks (esIts (ac.map Ent.lent)) ≤ _; rw [hac]; exact hf.fit.ac, hf.fit.bl, hf.fit.au⟩
  have callT : ∀ (Γ : Ctx) (d' : Nat) (k : List PR → Prop) (R : Prop), Γ = ctx Tryd.prog d' → k [.ao [.c (.v (.int .i64 ty)), .c (.v (.int .u64 Ich)), .c (.v (.int .u64 Ino)), .r 4 [.int .u64 prI0, .int .u64 prI1, .int .u64 prI2, .int .u64 prI3], .r 4 [.int .u64 tiI0, .int .u64 tiI1, .int .u64 tiI2, .int .u64 tiI3], .r 4 [.int .u64 caI0, .int .u64 caI1, .int .u64 caI2, .int .u64 caI3], .c (.v (.int .u64 Iga)), .c (.v (.bool cr)), .r 20 [.int .u8 o0, .int .u8 o1, .int .u8 o2, .int .u8 o3, .int .u8 o4, .int .u8 o5, .int .u8 o6, .int .u8 o7, .int .u8 o8, .int .u8 o9, .int .u8 o10, .int .u8 o11, .int .u8 o12, .int .u8 o13, .int .u8 o14, .int .u8 o15, .int .u8 o16, .int .u8 o17, .int .u8 o18, .int .u8 o19], .r 4 [.int .u64 vaI0, .int .u64 vaI1, .int .u64 vaI2, .int .u64 vaI3], .c (.ow D 5 1 1), .c (.ow LA 57 21 48), .r 4 [.int .u64 bcI0, .int .u64 bcI1, .int .u64 bcI2, .int .u64 bcI3], .c (.ow B 59 32 32), .c (.ow U 69 34 136), .r 4 [.int .u64 vI0, .int .u64 vI1, .int .u64 vI2, .int .u64 vI3], .r 4 [.int .u64 rI0, .int .u64 rI1, .int .u64 rI2, .int .u64 rI3], .r 4 [.int .u64 sI0, .int .u64 sI1, .int .u64 sI2, .int .u64 sI3]]] → Γ.g 9 [.a [.c (.v (.int .i64 ty)), .c (.v (.int .u64 Ich)), .c (.v (.int .u64 Ino)), .r 4 [.int .u64 prI0, .int .u64 prI1, .int .u64 prI2, .int .u64 prI3], .r 4 [.int .u64 tiI0, .int .u64 tiI1, .int .u64 tiI2, .int .u64 tiI3], .r 4 [.int .u64 caI0, .int .u64 caI1, .int .u64 caI2, .int .u64 caI3], .c (.v (.int .u64 Iga)), .c (.v (.bool cr)), .r 20 [.int .u8 o0, .int .u8 o1, .int .u8 o2, .int .u8 o3, .int .u8 o4, .int .u8 o5, .int .u8 o6, .int .u8 o7, .int .u8 o8, .int .u8 o9, .int .u8 o10, .int .u8 o11, .int .u8 o12, .int .u8 o13, .int .u8 o14, .int .u8 o15, .int .u8 o16, .int .u8 o17, .int .u8 o18, .int .u8 o19], .r 4 [.int .u64 vaI0, .int .u64 vaI1, .int .u64 vaI2, .int .u64 vaI3], .c (.sl D sd), .c (.sl A sac), .r 4 [.int .u64 bcI0, .int .u64 bcI1, .int .u64 bcI2, .int .u64 bcI3], .c (.sl B sbl), .c (.sl U sau), .r 4 [.int .u64 vI0, .int .u64 vI1, .int .u64 vI2, .int .u64 vI3], .r 4 [.int .u64 rI0, .int .u64 rI1, .int .u64 rI2, .int .u64 rI3], .r 4 [.int .u64 sI0, .int .u64 sI1, .int .u64 sI2, .int .u64 sI3]]] k ∨ R := fun Γ d' k R hΓ hk => call_by hΓ twin15O_sound ⟨_, by rw [← trow], hsm, by rw [lrow]; exact hk⟩
  rw [trow] at hargs
  subst hargs
  conv => cbv
  refine callT _ _ _ _ hΓ ?_
  conv => cbv
  refine ⟨fun h => ?_, fun h => ?_⟩
  · clear h
    conv => cbv
    obtain ⟨y, hy⟩ : ∃ y, ar.ib .add .i64 ty 1 = y := ⟨_, rfl⟩
    obtain ⟨hy0, hyne⟩ := addI har ho.ty
    simp only at hy0 hyne
    rw [hy] at hy0 hyne
    have e : Tx.row ⟨y, ch, no, (v4 pr0 pr1 pr2 pr3), (v4 ti0 ti1 ti2 ti3), (v4 ca0 ca1 ca2 ca3), ga, cr, [o0, o1, o2, o3, o4, o5, o6, o7, o8, o9, o10, o11, o12, o13, o14, o15, o16, o17, o18, o19], (v4 va0 va1 va2 va3), d, [], (ac.map Ent.lent), [], (v4 bc0 bc1 bc2 bc3), bl, [], au, [], (v4 v0 v1 v2 v3), (v4 r0 r1 r2 r3), (v4 s0 s1 s2 s3)⟩ = [.c (.v (.int .i64 y)), .c (.v (.int .u64 Ich)), .c (.v (.int .u64 Ino)), .r 4 [.int .u64 prI0, .int .u64 prI1, .int .u64 prI2, .int .u64 prI3], .r 4 [.int .u64 tiI0, .int .u64 tiI1, .int .u64 tiI2, .int .u64 tiI3], .r 4 [.int .u64 caI0, .int .u64 caI1, .int .u64 caI2, .int .u64 caI3], .c (.v (.int .u64 Iga)), .c (.v (.bool cr)), .r 20 [.int .u8 o0, .int .u8 o1, .int .u8 o2, .int .u8 o3, .int .u8 o4, .int .u8 o5, .int .u8 o6, .int .u8 o7, .int .u8 o8, .int .u8 o9, .int .u8 o10, .int .u8 o11, .int .u8 o12, .int .u8 o13, .int .u8 o14, .int .u8 o15, .int .u8 o16, .int .u8 o17, .int .u8 o18, .int .u8 o19], .r 4 [.int .u64 vaI0, .int .u64 vaI1, .int .u64 vaI2, .int .u64 vaI3], .c (.sl D []), .c (.sl LA []), .r 4 [.int .u64 bcI0, .int .u64 bcI1, .int .u64 bcI2, .int .u64 bcI3], .c (.sl B []), .c (.sl U []), .r 4 [.int .u64 vI0, .int .u64 vI1, .int .u64 vI2, .int .u64 vI3], .r 4 [.int .u64 rI0, .int .u64 rI1, .int .u64 rI2, .int .u64 rI3], .r 4 [.int .u64 sI0, .int .u64 sI1, .int .u64 sI2, .int .u64 sI3]] := by
        show txRow _ _ _ (w4 _) (w4 _) (w4 _) _ _ _ (w4 _) _ _ _ _ (w4 _) _ _ _ _ (w4 _) (w4 _) (w4 _) = _
        rw [w4_v4 hpr0 hpr1 hpr2 hpr3, w4_v4 hti0 hti1 hti2 hti3, w4_v4 hca0 hca1 hca2 hca3, w4_v4 hva0 hva1 hva2 hva3, w4_v4 hbc0 hbc1 hbc2 hbc3, w4_v4 hv0 hv1 hv2 hv3, w4_v4 hr0 hr1 hr2 hr3, w4_v4 hs0 hs1 hs2 hs3]
        simp only [hprI0, hprI1, hprI2, hprI3, htiI0, htiI1, htiI2, htiI3, hcaI0, hcaI1, hcaI2, hcaI3, hvaI0, hvaI1, hvaI2, hvaI3, hbcI0, hbcI1, hbcI2, hbcI3, hvI0, hvI1, hvI2, hvI3, hrI0, hrI1, hrI2, hrI3, hsI0, hsI1, hsI2, hsI3, hIch, hIno, hIga, hD, hLA, hB, hU]
        rfl
    have hk2 : k [.a [.c (.v (.int .i64 (ar.ib .add .i64 ty 1))), .c (.v (.int .u64 Ich)), .c (.v (.int .u64 Ino)), .r 4 [.int .u64 prI0, .int .u64 prI1, .int .u64 prI2, .int .u64 prI3], .r 4 [.int .u64 tiI0, .int .u64 tiI1, .int .u64 tiI2, .int .u64 tiI3], .r 4 [.int .u64 caI0, .int .u64 caI1, .int .u64 caI2, .int .u64 caI3], .c (.v (.int .u64 Iga)), .c (.v (.bool cr)), .r 20 [.int .u8 o0, .int .u8 o1, .int .u8 o2, .int .u8 o3, .int .u8 o4, .int .u8 o5, .int .u8 o6, .int .u8 o7, .int .u8 o8, .int .u8 o9, .int .u8 o10, .int .u8 o11, .int .u8 o12, .int .u8 o13, .int .u8 o14, .int .u8 o15, .int .u8 o16, .int .u8 o17, .int .u8 o18, .int .u8 o19], .r 4 [.int .u64 vaI0, .int .u64 vaI1, .int .u64 vaI2, .int .u64 vaI3], .c (.sl D []), .c (.sl LA []), .r 4 [.int .u64 bcI0, .int .u64 bcI1, .int .u64 bcI2, .int .u64 bcI3], .c (.sl B []), .c (.sl U []), .r 4 [.int .u64 vI0, .int .u64 vI1, .int .u64 vI2, .int .u64 vI3], .r 4 [.int .u64 rI0, .int .u64 rI1, .int .u64 rI2, .int .u64 rI3], .r 4 [.int .u64 sI0, .int .u64 sI1, .int .u64 sI2, .int .u64 sI3]]] := by
      rw [hy, ← e]
      exact hk _ { ho0 with ty := hy0 } { hf0 with } (fun e => hyne (congrArg Tx.ty e))
    exact hk2
  conv => cbv
  refine ⟨fun h => ?_, fun h => ?_⟩
  · clear h
    conv => cbv
    obtain ⟨n, hy, hnl, hyne⟩ := xorN har hIch ho.ch 1 (by decide)
    obtain ⟨y, hn⟩ : ∃ y : Int, y = (n : Int) := ⟨_, rfl⟩
    rw [← hn] at hy
    have e : Tx.row ⟨ty, n, no, (v4 pr0 pr1 pr2 pr3), (v4 ti0 ti1 ti2 ti3), (v4 ca0 ca1 ca2 ca3), ga, cr, [o0, o1, o2, o3, o4, o5, o6, o7, o8, o9, o10, o11, o12, o13, o14, o15, o16, o17, o18, o19], (v4 va0 va1 va2 va3), d, [], (ac.map Ent.lent), [], (v4 bc0 bc1 bc2 bc3), bl, [], au, [], (v4 v0 v1 v2 v3), (v4 r0 r1 r2 r3), (v4 s0 s1 s2 s3)⟩ = [.c (.v (.int .i64 ty)), .c (.v (.int .u64 y)), .c (.v (.int .u64 Ino)), .r 4 [.int .u64 prI0, .int .u64 prI1, .int .u64 prI2, .int .u64 prI3], .r 4 [.int .u64 tiI0, .int .u64 tiI1, .int .u64 tiI2, .int .u64 tiI3], .r 4 [.int .u64 caI0, .int .u64 caI1, .int .u64 caI2, .int .u64 caI3], .c (.v (.int .u64 Iga)), .c (.v (.bool cr)), .r 20 [.int .u8 o0, .int .u8 o1, .int .u8 o2, .int .u8 o3, .int .u8 o4, .int .u8 o5, .int .u8 o6, .int .u8 o7, .int .u8 o8, .int .u8 o9, .int .u8 o10, .int .u8 o11, .int .u8 o12, .int .u8 o13, .int .u8 o14, .int .u8 o15, .int .u8 o16, .int .u8 o17, .int .u8 o18, .int .u8 o19], .r 4 [.int .u64 vaI0, .int .u64 vaI1, .int .u64 vaI2, .int .u64 vaI3], .c (.sl D []), .c (.sl LA []), .r 4 [.int .u64 bcI0, .int .u64 bcI1, .int .u64 bcI2, .int .u64 bcI3], .c (.sl B []), .c (.sl U []), .r 4 [.int .u64 vI0, .int .u64 vI1, .int .u64 vI2, .int .u64 vI3], .r 4 [.int .u64 rI0, .int .u64 rI1, .int .u64 rI2, .int .u64 rI3], .r 4 [.int .u64 sI0, .int .u64 sI1, .int .u64 sI2, .int .u64 sI3]] := by
        show txRow _ _ _ (w4 _) (w4 _) (w4 _) _ _ _ (w4 _) _ _ _ _ (w4 _) _ _ _ _ (w4 _) (w4 _) (w4 _) = _
        rw [w4_v4 hpr0 hpr1 hpr2 hpr3, w4_v4 hti0 hti1 hti2 hti3, w4_v4 hca0 hca1 hca2 hca3, w4_v4 hva0 hva1 hva2 hva3, w4_v4 hbc0 hbc1 hbc2 hbc3, w4_v4 hv0 hv1 hv2 hv3, w4_v4 hr0 hr1 hr2 hr3, w4_v4 hs0 hs1 hs2 hs3]
        simp only [hprI0, hprI1, hprI2, hprI3, htiI0, htiI1, htiI2, htiI3, hcaI0, hcaI1, hcaI2, hcaI3, hvaI0, hvaI1, hvaI2, hvaI3, hbcI0, hbcI1, hbcI2, hbcI3, hvI0, hvI1, hvI2, hvI3, hrI0, hrI1, hrI2, hrI3, hsI0, hsI1, hsI2, hsI3, hIch, hIno, hIga, hD, hLA, hB, hU, hn]
        rfl
    have hk2 : k [.a [.c (.v (.int .i64 ty)), .c (.v (.int .u64 (ar.ib .xor .u64 Ich 1))), .c (.v (.int .u64 Ino)), .r 4 [.int .u64 prI0, .int .u64 prI1, .int .u64 prI2, .int .u64 prI3], .r 4 [.int .u64 tiI0, .int .u64 tiI1, .int .u64 tiI2, .int .u64 tiI3], .r 4 [.int .u64 caI0, .int .u64 caI1, .int .u64 caI2, .int .u64 caI3], .c (.v (.int .u64 Iga)), .c (.v (.bool cr)), .r 20 [.int .u8 o0, .int .u8 o1, .int .u8 o2, .int .u8 o3, .int .u8 o4, .int .u8 o5, .int .u8 o6, .int .u8 o7, .int .u8 o8, .int .u8 o9, .int .u8 o10, .int .u8 o11, .int .u8 o12, .int .u8 o13, .int .u8 o14, .int .u8 o15, .int .u8 o16, .int .u8 o17, .int .u8 o18, .int .u8 o19], .r 4 [.int .u64 vaI0, .int .u64 vaI1, .int .u64 vaI2, .int .u64 vaI3], .c (.sl D []), .c (.sl LA []), .r 4 [.int .u64 bcI0, .int .u64 bcI1, .int .u64 bcI2, .int .u64 bcI3], .c (.sl B []), .c (.sl U []), .r 4 [.int .u64 vI0, .int .u64 vI1, .int .u64 vI2, .int .u64 vI3], .r 4 [.int .u64 rI0, .int .u64 rI1, .int .u64 rI2, .int .u64 rI3], .r 4 [.int .u64 sI0, .int .u64 sI1, .int .u64 sI2, .int .u64 sI3]]] := by
      rw [hy, ← e]
      exact hk _ { ho0 with ch := hnl } { hf0 with } (fun e => hyne (congrArg Tx.ch e))
    exact hk2
  conv => cbv
  refine ⟨fun h => ?_, fun h => ?_⟩
  · clear h
    conv => cbv
    obtain ⟨n, hy, hnl, hyne⟩ := xorN har hIno ho.no 1 (by decide)
    obtain ⟨y, hn⟩ : ∃ y : Int, y = (n : Int) := ⟨_, rfl⟩
    rw [← hn] at hy
    have e : Tx.row ⟨ty, ch, n, (v4 pr0 pr1 pr2 pr3), (v4 ti0 ti1 ti2 ti3), (v4 ca0 ca1 ca2 ca3), ga, cr, [o0, o1, o2, o3, o4, o5, o6, o7, o8, o9, o10, o11, o12, o13, o14, o15, o16, o17, o18, o19], (v4 va0 va1 va2 va3), d, [], (ac.map Ent.lent), [], (v4 bc0 bc1 bc2 bc3), bl, [], au, [], (v4 v0 v1 v2 v3), (v4 r0 r1 r2 r3), (v4 s0 s1 s2 s3)⟩ = [.c (.v (.int .i64 ty)), .c (.v (.int .u64 Ich)), .c (.v (.int .u64 y)), .r 4 [.int .u64 prI0, .int .u64 prI1, .int .u64 prI2, .int .u64 prI3], .r 4 [.int .u64 tiI0, .int .u64 tiI1, .int .u64 tiI2, .int .u64 tiI3], .r 4 [.int .u64 caI0, .int .u64 caI1, .int .u64 caI2, .int .u64 caI3], .c (.v (.int .u64 Iga)), .c (.v (.bool cr)), .r 20 [.int .u8 o0, .int .u8 o1, .int .u8 o2, .int .u8 o3, .int .u8 o4, .int .u8 o5, .int .u8 o6, .int .u8 o7, .int .u8 o8, .int .u8 o9, .int .u8 o10, .int .u8 o11, .int .u8 o12, .int .u8 o13, .int .u8 o14, .int .u8 o15, .int .u8 o16, .int .u8 o17, .int .u8 o18, .int .u8 o19], .r 4 [.int .u64 vaI0, .int .u64 vaI1, .int .u64 vaI2, .int .u64 vaI3], .c (.sl D []), .c (.sl LA []), .r 4 [.int .u64 bcI0, .int .u64 bcI1, .int .u64 bcI2, .int .u64 bcI3], .c (.sl B []), .c (.sl U []), .r 4 [.int .u64 vI0, .int .u64 vI1, .int .u64 vI2, .int .u64 vI3], .r 4 [.int .u64 rI0, .int .u64 rI1, .int .u64 rI2, .int .u64 rI3], .r 4 [.int .u64 sI0, .int .u64 sI1, .int .u64 sI2, .int .u64 sI3]] := by
        show txRow _ _ _ (w4 _) (w4 _) (w4 _) _ _ _ (w4 _) _ _ _ _ (w4 _) _ _ _ _ (w4 _) (w4 _) (w4 _) = _
        rw [w4_v4 hpr0 hpr1 hpr2 hpr3, w4_v4 hti0 hti1 hti2 hti3, w4_v4 hca0 hca1 hca2 hca3, w4_v4 hva0 hva1 hva2 hva3, w4_v4 hbc0 hbc1 hbc2 hbc3, w4_v4 hv0 hv1 hv2 hv3, w4_v4 hr0 hr1 hr2 hr3, w4_v4 hs0 hs1 hs2 hs3]
        simp only [hprI0, hprI1, hprI2, hprI3, htiI0, htiI1, htiI2, htiI3, hcaI0, hcaI1, hcaI2, hcaI3, hvaI0, hvaI1, hvaI2, hvaI3, hbcI0, hbcI1, hbcI2, hbcI3, hvI0, hvI1, hvI2, hvI3, hrI0, hrI1, hrI2, hrI3, hsI0, hsI1, hsI2, hsI3, hIch, hIno, hIga, hD, hLA, hB, hU, hn]
        rfl
    have hk2 : k [.a [.c (.v (.int .i64 ty)), .c (.v (.int .u64 Ich)), .c (.v (.int .u64 (ar.ib .xor .u64 Ino 1))), .r 4 [.int .u64 prI0, .int .u64 prI1, .int .u64 prI2, .int .u64 prI3], .r 4 [.int .u64 tiI0, .int .u64 tiI1, .int .u64 tiI2, .int .u64 tiI3], .r 4 [.int .u64 caI0, .int .u64 caI1, .int .u64 caI2, .int .u64 caI3], .c (.v (.int .u64 Iga)), .c (.v (.bool cr)), .r 20 [.int .u8 o0, .int .u8 o1, .int .u8 o2, .int .u8 o3, .int .u8 o4, .int .u8 o5, .int .u8 o6, .int .u8 o7, .int .u8 o8, .int .u8 o9, .int .u8 o10, .int .u8 o11, .int .u8 o12, .int .u8 o13, .int .u8 o14, .int .u8 o15, .int .u8 o16, .int .u8 o17, .int .u8 o18, .int .u8 o19], .r 4 [.int .u64 vaI0, .int .u64 vaI1, .int .u64 vaI2, .int .u64 vaI3], .c (.sl D []), .c (.sl LA []), .r 4 [.int .u64 bcI0, .int .u64 bcI1, .int .u64 bcI2, .int .u64 bcI3], .c (.sl B []), .c (.sl U []), .r 4 [.int .u64 vI0, .int .u64 vI1, .int .u64 vI2, .int .u64 vI3], .r 4 [.int .u64 rI0, .int .u64 rI1, .int .u64 rI2, .int .u64 rI3], .r 4 [.int .u64 sI0, .int .u64 sI1, .int .u64 sI2, .int .u64 sI3]]] := by
      rw [hy, ← e]
      exact hk _ { ho0 with no := hnl } { hf0 with } (fun e => hyne (congrArg Tx.no e))
    exact hk2
  conv => cbv
  refine ⟨fun h => ?_, fun h => ?_⟩
  · clear h
    conv => cbv
    obtain ⟨n, hy, hnl, hyne⟩ := xorN har hprI0 hpr0 1 (by decide)
    obtain ⟨y, hn⟩ : ∃ y : Int, y = (n : Int) := ⟨_, rfl⟩
    rw [← hn] at hy
    have e : Tx.row ⟨ty, ch, no, (v4 n pr1 pr2 pr3), (v4 ti0 ti1 ti2 ti3), (v4 ca0 ca1 ca2 ca3), ga, cr, [o0, o1, o2, o3, o4, o5, o6, o7, o8, o9, o10, o11, o12, o13, o14, o15, o16, o17, o18, o19], (v4 va0 va1 va2 va3), d, [], (ac.map Ent.lent), [], (v4 bc0 bc1 bc2 bc3), bl, [], au, [], (v4 v0 v1 v2 v3), (v4 r0 r1 r2 r3), (v4 s0 s1 s2 s3)⟩ = [.c (.v (.int .i64 ty)), .c (.v (.int .u64 Ich)), .c (.v (.int .u64 Ino)), .r 4 [.int .u64 y, .int .u64 prI1, .int .u64 prI2, .int .u64 prI3], .r 4 [.int .u64 tiI0, .int .u64 tiI1, .int .u64 tiI2, .int .u64 tiI3], .r 4 [.int .u64 caI0, .int .u64 caI1, .int .u64 caI2, .int .u64 caI3], .c (.v (.int .u64 Iga)), .c (.v (.bool cr)), .r 20 [.int .u8 o0, .int .u8 o1, .int .u8 o2, .int .u8 o3, .int .u8 o4, .int .u8 o5, .int .u8 o6, .int .u8 o7, .int .u8 o8, .int .u8 o9, .int .u8 o10, .int .u8 o11, .int .u8 o12, .int .u8 o13, .int .u8 o14, .int .u8 o15, .int .u8 o16, .int .u8 o17, .int .u8 o18, .int .u8 o19], .r 4 [.int .u64 vaI0, .int .u64 vaI1, .int .u64 vaI2, .int .u64 vaI3], .c (.sl D []), .c (.sl LA []), .r 4 [.int .u64 bcI0, .int .u64 bcI1, .int .u64 bcI2, .int .u64 bcI3], .c (.sl B []), .c (.sl U []), .r 4 [.int .u64 vI0, .int .u64 vI1, .int .u64 vI2, .int .u64 vI3], .r 4 [.int .u64 rI0, .int .u64 rI1, .int .u64 rI2, .int .u64 rI3], .r 4 [.int .u64 sI0, .int .u64 sI1, .int .u64 sI2, .int .u64 sI3]] := by
        show txRow _ _ _ (w4 _) (w4 _) (w4 _) _ _ _ (w4 _) _ _ _ _ (w4 _) _ _ _ _ (w4 _) (w4 _) (w4 _) = _
        rw [w4_v4 hnl hpr1 hpr2 hpr3, w4_v4 hti0 hti1 hti2 hti3, w4_v4 hca0 hca1 hca2 hca3, w4_v4 hva0 hva1 hva2 hva3, w4_v4 hbc0 hbc1 hbc2 hbc3, w4_v4 hv0 hv1 hv2 hv3, w4_v4 hr0 hr1 hr2 hr3, w4_v4 hs0 hs1 hs2 hs3]
        simp only [hprI0, hprI1, hprI2, hprI3, htiI0, htiI1, htiI2, htiI3, hcaI0, hcaI1, hcaI2, hcaI3, hvaI0, hvaI1, hvaI2, hvaI3, hbcI0, hbcI1, hbcI2, hbcI3, hvI0, hvI1, hvI2, hvI3, hrI0, hrI1, hrI2, hrI3, hsI0, hsI1, hsI2, hsI3, hIch, hIno, hIga, hD, hLA, hB, hU, hn]
        rfl
    have hk2 : k [.a [.c (.v (.int .i64 ty)), .c (.v (.int .u64 Ich)), .c (.v (.int .u64 Ino)), .r 4 [.int .u64 (ar.ib .xor .u64 prI0 1), .int .u64 prI1, .int .u64 prI2, .int .u64 prI3], .r 4 [.int .u64 tiI0, .int .u64 tiI1, .int .u64 tiI2, .int .u64 tiI3], .r 4 [.int .u64 caI0, .int .u64 caI1, .int .u64 caI2, .int .u64 caI3], .c (.v (.int .u64 Iga)), .c (.v (.bool cr)), .r 20 [.int .u8 o0, .int .u8 o1, .int .u8 o2, .int .u8 o3, .int .u8 o4, .int .u8 o5, .int .u8 o6, .int .u8 o7, .int .u8 o8, .int .u8 o9, .int .u8 o10, .int .u8 o11, .int .u8 o12, .int .u8 o13, .int .u8 o14, .int .u8 o15, .int .u8 o16, .int .u8 o17, .int .u8 o18, .int .u8 o19], .r 4 [.int .u64 vaI0, .int .u64 vaI1, .int .u64 vaI2, .int .u64 vaI3], .c (.sl D []), .c (.sl LA []), .r 4 [.int .u64 bcI0, .int .u64 bcI1, .int .u64 bcI2, .int .u64 bcI3], .c (.sl B []), .c (.sl U []), .r 4 [.int .u64 vI0, .int .u64 vI1, .int .u64 vI2, .int .u64 vI3], .r 4 [.int .u64 rI0, .int .u64 rI1, .int .u64 rI2, .int .u64 rI3], .r 4 [.int .u64 sI0, .int .u64 sI1, .int .u64 sI2, .int .u64 sI3]]] := by
      rw [hy, ← e]
      exact hk _ { ho0 with pr := v4_lt hnl hpr1 hpr2 hpr3 } { hf0 with } (fun e => v4_ne0 hyne (congrArg Tx.pr e))
    exact hk2
  conv => cbv
  refine ⟨fun h => ?_, fun h => ?_⟩
  · clear h
    conv => cbv
    obtain ⟨n, hy, hnl, hyne⟩ := xorN har htiI0 hti0 1 (by decide)
    obtain ⟨y, hn⟩ : ∃ y : Int, y = (n : Int) := ⟨_, rfl⟩
    rw [← hn] at hy
    have e : Tx.row ⟨ty, ch, no, (v4 pr0 pr1 pr2 pr3), (v4 n ti1 ti2 ti3), (v4 ca0 ca1 ca2 ca3), ga, cr, [o0, o1, o2, o3, o4, o5, o6, o7, o8, o9, o10, o11, o12, o13, o14, o15, o16, o17, o18, o19], (v4 va0 va1 va2 va3), d, [], (ac.map Ent.lent), [], (v4 bc0 bc1 bc2 bc3), bl, [], au, [], (v4 v0 v1 v2 v3), (v4 r0 r1 r2 r3), (v4 s0 s1 s2 s3)⟩ = [.c (.v (.int .i64 ty)), .c (.v (.int .u64 Ich)), .c (.v (.int .u64 Ino)), .r 4 [.int .u64 prI0, .int .u64 prI1, .int .u64 prI2, .int .u64 prI3], .r 4 [.int .u64 y, .int .u64 tiI1, .int .u64 tiI2, .int .u64 tiI3], .r 4 [.int .u64 caI0, .int .u64 caI1, .int .u64 caI2, .int .u64 caI3], .c (.v (.int .u64 Iga)), .c (.v (.bool cr)), .r 20 [.int .u8 o0, .int .u8 o1, .int .u8 o2, .int .u8 o3, .int .u8 o4, .int .u8 o5, .int .u8 o6, .int .u8 o7, .int .u8 o8, .int .u8 o9, .int .u8 o10, .int .u8 o11, .int .u8 o12, .int .u8 o13, .int .u8 o14, .int .u8 o15, .int .u8 o16, .int .u8 o17, .int .u8 o18, .int .u8 o19], .r 4 [.int .u64 vaI0, .int .u64 vaI1, .int .u64 vaI2, .int .u64 vaI3], .c (.sl D []), .c (.sl LA []), .r 4 [.int .u64 bcI0, .int .u64 bcI1, .int .u64 bcI2, .int .u64 bcI3], .c (.sl B []), .c (.sl U []), .r 4 [.int .u64 vI0, .int .u64 vI1, .int .u64 vI2, .int .u64 vI3], .r 4 [.int .u64 rI0, .int .u64 rI1, .int .u64 rI2, .int .u64 rI3], .r 4 [.int .u64 sI0, .int .u64 sI1, .int .u64 sI2, .int .u64 sI3]] := by
        show txRow _ _ _ (w4 _) (w4 _) (w4 _) _ _ _ (w4 _) _ _ _ _ (w4 _) _ _ _ _ (w4 _) (w4 _) (w4 _) = _
        rw [w4_v4 hpr0 hpr1 hpr2 hpr3, w4_v4 hnl hti1 hti2 hti3, w4_v4 hca0 hca1 hca2 hca3, w4_v4 hva0 hva1 hva2 hva3, w4_v4 hbc0 hbc1 hbc2 hbc3, w4_v4 hv0 hv1 hv2 hv3, w4_v4 hr0 hr1 hr2 hr3, w4_v4 hs0 hs1 hs2 hs3]
        simp only [hprI0, hprI1, hprI2, hprI3, htiI0, htiI1, htiI2, htiI3, hcaI0, hcaI1, hcaI2, hcaI3, hvaI0, hvaI1, hvaI2, hvaI3, hbcI0, hbcI1, hbcI2, hbcI3, hvI0, hvI1, hvI2, hvI3, hrI0, hrI1, hrI2, hrI3, hsI0, hsI1, hsI2, hsI3, hIch, hIno, hIga, hD, hLA, hB, hU, hn]
        rfl
    have hk2 : k [.a [.c (.v (.int .i64 ty)), .c (.v (.int .u64 Ich)), .c (.v (.int .u64 Ino)), .r 4 [.int .u64 prI0, .int .u64 prI1, .int .u64 prI2, .int .u64 prI3], .r 4 [.int .u64 (ar.ib .xor .u64 tiI0 1), .int .u64 tiI1, .int .u64 tiI2, .int .u64 tiI3], .r 4 [.int .u64 caI0, .int .u64 caI1, .int .u64 caI2, .int .u64 caI3], .c (.v (.int .u64 Iga)), .c (.v (.bool cr)), .r 20 [.int .u8 o0, .int .u8 o1, .int .u8 o2, .int .u8 o3, .int .u8 o4, .int .u8 o5, .int .u8 o6, .int .u8 o7, .int .u8 o8, .int .u8 o9, .int .u8 o10, .int .u8 o11, .int .u8 o12, .int .u8 o13, .int .u8 o14, .int .u8 o15, .int .u8 o16, .int .u8 o17, .int .u8 o18, .int .u8 o19], .r 4 [.int .u64 vaI0, .int .u64 vaI1, .int .u64 vaI2, .int .u64 vaI3], .c (.sl D []), .c (.sl LA []), .r 4 [.int .u64 bcI0, .int .u64 bcI1, .int .u64 bcI2, .int .u64 bcI3], .c (.sl B []), .c (.sl U []), .r 4 [.int .u64 vI0, .int .u64 vI1, .int .u64 vI2, .int .u64 vI3], .r 4 [.int .u64 rI0, .int .u64 rI1, .int .u64 rI2, .int .u64 rI3], .r 4 [.int .u64 sI0, .int .u64 sI1, .int .u64 sI2, .int .u64 sI3]]] := by
      rw [hy, ← e]
      exact hk _ { ho0 with ti := v4_lt hnl hti1 hti2 hti3 } { hf0 with } (fun e => v4_ne0 hyne (congrArg Tx.ti e))
    exact hk2
  conv => cbv
  refine ⟨fun h => ?_, fun h => ?_⟩
  · clear h
    conv => cbv
    obtain ⟨n, hy, hnl, hyne⟩ := xorN har hcaI3 hca3 1 (by decide)
    obtain ⟨y, hn⟩ : ∃ y : Int, y = (n : Int) := ⟨_, rfl⟩
    rw [← hn] at hy
    have e : Tx.row ⟨ty, ch, no, (v4 pr0 pr1 pr2 pr3), (v4 ti0 ti1 ti2 ti3), (v4 ca0 ca1 ca2 n), ga, cr, [o0, o1, o2, o3, o4, o5, o6, o7, o8, o9, o10, o11, o12, o13, o14, o15, o16, o17, o18, o19], (v4 va0 va1 va2 va3), d, [], (ac.map Ent.lent), [], (v4 bc0 bc1 bc2 bc3), bl, [], au, [], (v4 v0 v1 v2 v3), (v4 r0 r1 r2 r3), (v4 s0 s1 s2 s3)⟩ = [.c (.v (.int .i64 ty)), .c (.v (.int .u64 Ich)), .c (.v (.int .u64 Ino)), .r 4 [.int .u64 prI0, .int .u64 prI1, .int .u64 prI2, .int .u64 prI3], .r 4 [.int .u64 tiI0, .int .u64 tiI1, .int .u64 tiI2, .int .u64 tiI3], .r 4 [.int .u64 caI0, .int .u64 caI1, .int .u64 caI2, .int .u64 y], .c (.v (.int .u64 Iga)), .c (.v (.bool cr)), .r 20 [.int .u8 o0, .int .u8 o1, .int .u8 o2, .int .u8 o3, .int .u8 o4, .int .u8 o5, .int .u8 o6, .int .u8 o7, .int .u8 o8, .int .u8 o9, .int .u8 o10, .int .u8 o11, .int .u8 o12, .int .u8 o13, .int .u8 o14, .int .u8 o15, .int .u8 o16, .int .u8 o17, .int .u8 o18, .int .u8 o19], .r 4 [.int .u64 vaI0, .int .u64 vaI1, .int .u64 vaI2, .int .u64 vaI3], .c (.sl D []), .c (.sl LA []), .r 4 [.int .u64 bcI0, .int .u64 bcI1, .int .u64 bcI2, .int .u64 bcI3], .c (.sl B []), .c (.sl U []), .r 4 [.int .u64 vI0, .int .u64 vI1, .int .u64 vI2, .int .u64 vI3], .r 4 [.int .u64 rI0, .int .u64 rI1, .int .u64 rI2, .int .u64 rI3], .r 4 [.int .u64 sI0, .int .u64 sI1, .int .u64 sI2, .int .u64 sI3]] := by
        show txRow _ _ _ (w4 _) (w4 _) (w4 _) _ _ _ (w4 _) _ _ _ _ (w4 _) _ _ _ _ (w4 _) (w4 _) (w4 _) = _
        rw [w4_v4 hpr0 hpr1 hpr2 hpr3, w4_v4 hti0 hti1 hti2 hti3, w4_v4 hca0 hca1 hca2 hnl, w4_v4 hva0 hva1 hva2 hva3, w4_v4 hbc0 hbc1 hbc2 hbc3, w4_v4 hv0 hv1 hv2 hv3, w4_v4 hr0 hr1 hr2 hr3, w4_v4 hs0 hs1 hs2 hs3]
        simp only [hprI0, hprI1, hprI2, hprI3, htiI0, htiI1, htiI2, htiI3, hcaI0, hcaI1, hcaI2, hcaI3, hvaI0, hvaI1, hvaI2, hvaI3, hbcI0, hbcI1, hbcI2, hbcI3, hvI0, hvI1, hvI2, hvI3, hrI0, hrI1, hrI2, hrI3, hsI0, hsI1, hsI2, hsI3, hIch, hIno, hIga, hD, hLA, hB, hU, hn]
        rfl
    have hk2 : k [.a [.c (.v (.int .i64 ty)), .c (.v (.int .u64 Ich)), .c (.v (.int .u64 Ino)), .r 4 [.int .u64 prI0, .int .u64 prI1, .int .u64 prI2, .int .u64 prI3], .r 4 [.int .u64 tiI0, .int .u64 tiI1, .int .u64 tiI2, .int .u64 tiI3], .r 4 [.int .u64 caI0, .int .u64 caI1, .int .u64 caI2, .int .u64 (ar.ib .xor .u64 caI3 1)], .c (.v (.int .u64 Iga)), .c (.v (.bool cr)), .r 20 [.int .u8 o0, .int .u8 o1, .int .u8 o2, .int .u8 o3, .int .u8 o4, .int .u8 o5, .int .u8 o6, .int .u8 o7, .int .u8 o8, .int .u8 o9, .int .u8 o10, .int .u8 o11, .int .u8 o12, .int .u8 o13, .int .u8 o14, .int .u8 o15, .int .u8 o16, .int .u8 o17, .int .u8 o18, .int .u8 o19], .r 4 [.int .u64 vaI0, .int .u64 vaI1, .int .u64 vaI2, .int .u64 vaI3], .c (.sl D []), .c (.sl LA []), .r 4 [.int .u64 bcI0, .int .u64 bcI1, .int .u64 bcI2, .int .u64 bcI3], .c (.sl B []), .c (.sl U []), .r 4 [.int .u64 vI0, .int .u64 vI1, .int .u64 vI2, .int .u64 vI3], .r 4 [.int .u64 rI0, .int .u64 rI1, .int .u64 rI2, .int .u64 rI3], .r 4 [.int .u64 sI0, .int .u64 sI1, .int .u64 sI2, .int .u64 sI3]]] := by
      rw [hy, ← e]
      exact hk _ { ho0 with ca := v4_lt hca0 hca1 hca2 hnl } { hf0 with } (fun e => v4_ne3 hyne (congrArg Tx.ca e))
    exact hk2
  conv => cbv
  refine ⟨fun h => ?_, fun h => ?_⟩
  · clear h
    conv => cbv
    obtain ⟨n, hy, hnl, hyne⟩ := xorN har hIga ho.ga 9223372036854775808 (by decide)
    obtain ⟨y, hn⟩ : ∃ y : Int, y = (n : Int) := ⟨_, rfl⟩
    rw [← hn] at hy
    have e : Tx.row ⟨ty, ch, no, (v4 pr0 pr1 pr2 pr3), (v4 ti0 ti1 ti2 ti3), (v4 ca0 ca1 ca2 ca3), n, cr, [o0, o1, o2, o3, o4, o5, o6, o7, o8, o9, o10, o11, o12, o13, o14, o15, o16, o17, o18, o19], (v4 va0 va1 va2 va3), d, [], (ac.map Ent.lent), [], (v4 bc0 bc1 bc2 bc3), bl, [], au, [], (v4 v0 v1 v2 v3), (v4 r0 r1 r2 r3), (v4 s0 s1 s2 s3)⟩ = [.c (.v (.int .i64 ty)), .c (.v (.int .u64 Ich)), .c (.v (.int .u64 Ino)), .r 4 [.int .u64 prI0, .int .u64 prI1, .int .u64 prI2, .int .u64 prI3], .r 4 [.int .u64 tiI0, .int .u64 tiI1, .int .u64 tiI2, .int .u64 tiI3], .r 4 [.int .u64 caI0, .int .u64 caI1, .int .u64 caI2, .int .u64 caI3], .c (.v (.int .u64 y)), .c (.v (.bool cr)), .r 20 [.int .u8 o0, .int .u8 o1, .int .u8 o2, .int .u8 o3, .int .u8 o4, .int .u8 o5, .int .u8 o6, .int .u8 o7, .int .u8 o8, .int .u8 o9, .int .u8 o10, .int .u8 o11, .int .u8 o12, .int .u8 o13, .int .u8 o14, .int .u8 o15, .int .u8 o16, .int .u8 o17, .int .u8 o18, .int .u8 o19], .r 4 [.int .u64 vaI0, .int .u64 vaI1, .int .u64 vaI2, .int .u64 vaI3], .c (.sl D []), .c (.sl LA []), .r 4 [.int .u64 bcI0, .int .u64 bcI1, .int .u64 bcI2, .int .u64 bcI3], .c (.sl B []), .c (.sl U []), .r 4 [.int .u64 vI0, .int .u64 vI1, .int .u64 vI2, .int .u64 vI3], .r 4 [.int .u64 rI0, .int .u64 rI1, .int .u64 rI2, .int .u64 rI3], .r 4 [.int .u64 sI0, .int .u64 sI1, .int .u64 sI2, .int .u64 sI3]] := by
        show txRow _ _ _ (w4 _) (w4 _) (w4 _) _ _ _ (w4 _) _ _ _ _ (w4 _) _ _ _ _ (w4 _) (w4 _) (w4 _) = _
        rw [w4_v4 hpr0 hpr1 hpr2 hpr3, w4_v4 hti0 hti1 hti2 hti3, w4_v4 hca0 hca1 hca2 hca3, w4_v4 hva0 hva1 hva2 hva3, w4_v4 hbc0 hbc1 hbc2 hbc3, w4_v4 hv0 hv1 hv2 hv3, w4_v4 hr0 hr1 hr2 hr3, w4_v4 hs0 hs1 hs2 hs3]
        simp only [hprI0, hprI1, hprI2, hprI3, htiI0, htiI1, htiI2, htiI3, hcaI0, hcaI1, hcaI2, hcaI3, hvaI0, hvaI1, hvaI2, hvaI3, hbcI0, hbcI1, hbcI2, hbcI3, hvI0, hvI1, hvI2, hvI3, hrI0, hrI1, hrI2, hrI3, hsI0, hsI1, hsI2, hsI3, hIch, hIno, hIga, hD, hLA, hB, hU, hn]
        rfl
    have hk2 : k [.a [.c (.v (.int .i64 ty)), .c (.v (.int .u64 Ich)), .c (.v (.int .u64 Ino)), .r 4 [.int .u64 prI0, .int .u64 prI1, .int .u64 prI2, .int .u64 prI3], .r 4 [.int .u64 tiI0, .int .u64 tiI1, .int .u64 tiI2, .int .u64 tiI3], .r 4 [.int .u64 caI0, .int .u64 caI1, .int .u64 caI2, .int .u64 caI3], .c (.v (.int .u64 (ar.ib .xor .u64 Iga 9223372036854775808))), .c (.v (.bool cr)), .r 20 [.int .u8 o0, .int .u8 o1, .int .u8 o2, .int .u8 o3, .int .u8 o4, .int .u8 o5, .int .u8 o6, .int .u8 o7, .int .u8 o8, .int .u8 o9, .int .u8 o10, .int .u8 o11, .int .u8 o12, .int .u8 o13, .int .u8 o14, .int .u8 o15, .int .u8 o16, .int .u8 o17, .int .u8 o18, .int .u8 o19], .r 4 [.int .u64 vaI0, .int .u64 vaI1, .int .u64 vaI2, .int .u64 vaI3], .c (.sl D []), .c (.sl LA []), .r 4 [.int .u64 bcI0, .int .u64 bcI1, .int .u64 bcI2, .int .u64 bcI3], .c (.sl B []), .c (.sl U []), .r 4 [.int .u64 vI0, .int .u64 vI1, .int .u64 vI2, .int .u64 vI3], .r 4 [.int .u64 rI0, .int .u64 rI1, .int .u64 rI2, .int .u64 rI3], .r 4 [.int .u64 sI0, .int .u64 sI1, .int .u64 sI2, .int .u64 sI3]]] := by
      rw [hy, ← e]
      exact hk _ { ho0 with ga := hnl } { hf0 with } (fun e => hyne (congrArg Tx.ga e))
    exact hk2
  conv => cbv
  refine ⟨fun h => ?_, fun h => ?_⟩
  · clear h
    conv => cbv
    obtain ⟨y, hy⟩ : ∃ y, ar.nb cr = y := ⟨_, rfl⟩
    have hyne : y ≠ cr := by rw [← hy, har]; cases cr <;> simp [arS]
    have e : Tx.row ⟨ty, ch, no, (v4 pr0 pr1 pr2 pr3), (v4 ti0 ti1 ti2 ti3), (v4 ca0 ca1 ca2 ca3), ga, y, [o0, o1, o2, o3, o4, o5, o6, o7, o8, o9, o10, o11, o12, o13, o14, o15, o16, o17, o18, o19], (v4 va0 va1 va2 va3), d, [], (ac.map Ent.lent), [], (v4 bc0 bc1 bc2 bc3), bl, [], au, [], (v4 v0 v1 v2 v3), (v4 r0 r1 r2 r3), (v4 s0 s1 s2 s3)⟩ = [.c (.v (.int .i64 ty)), .c (.v (.int .u64 Ich)), .c (.v (.int .u64 Ino)), .r 4 [.int .u64 prI0, .int .u64 prI1, .int .u64 prI2, .int .u64 prI3], .r 4 [.int .u64 tiI0, .int .u64 tiI1, .int .u64 tiI2, .int .u64 tiI3], .r 4 [.int .u64 caI0, .int .u64 caI1, .int .u64 caI2, .int .u64 caI3], .c (.v (.int .u64 Iga)), .c (.v (.bool y)), .r 20 [.int .u8 o0, .int .u8 o1, .int .u8 o2, .int .u8 o3, .int .u8 o4, .int .u8 o5, .int .u8 o6, .int .u8 o7, .int .u8 o8, .int .u8 o9, .int .u8 o10, .int .u8 o11, .int .u8 o12, .int .u8 o13, .int .u8 o14, .int .u8 o15, .int .u8 o16, .int .u8 o17, .int .u8 o18, .int .u8 o19], .r 4 [.int .u64 vaI0, .int .u64 vaI1, .int .u64 vaI2, .int .u64 vaI3], .c (.sl D []), .c (.sl LA []), .r 4 [.int .u64 bcI0, .int .u64 bcI1, .int .u64 bcI2, .int .u64 bcI3], .c (.sl B []), .c (.sl U []), .r 4 [.int .u64 vI0, .int .u64 vI1, .int .u64 vI2, .int .u64 vI3], .r 4 [.int .u64 rI0, .int .u64 rI1, .int .u64 rI2, .int .u64 rI3], .r 4 [.int .u64 sI0, .int .u64 sI1, .int .u64 sI2, .int .u64 sI3]] := by
        show txRow _ _ _ (w4 _) (w4 _) (w4 _) _ _ _ (w4 _) _ _ _ _ (w4 _) _ _ _ _ (w4 _) (w4 _) (w4 _) = _
        rw [w4_v4 hpr0 hpr1 hpr2 hpr3, w4_v4 hti0 hti1 hti2 hti3, w4_v4 hca0 hca1 hca2 hca3, w4_v4 hva0 hva1 hva2 hva3, w4_v4 hbc0 hbc1 hbc2 hbc3, w4_v4 hv0 hv1 hv2 hv3, w4_v4 hr0 hr1 hr2 hr3, w4_v4 hs0 hs1 hs2 hs3]
        simp only [hprI0, hprI1, hprI2, hprI3, htiI0, htiI1, htiI2, htiI3, hcaI0, hcaI1, hcaI2, hcaI3, hvaI0, hvaI1, hvaI2, hvaI3, hbcI0, hbcI1, hbcI2, hbcI3, hvI0, hvI1, hvI2, hvI3, hrI0, hrI1, hrI2, hrI3, hsI0, hsI1, hsI2, hsI3, hIch, hIno, hIga, hD, hLA, hB, hU]
        rfl
    have hk2 : k [.a [.c (.v (.int .i64 ty)), .c (.v (.int .u64 Ich)), .c (.v (.int .u64 Ino)), .r 4 [.int .u64 prI0, .int .u64 prI1, .int .u64 prI2, .int .u64 prI3], .r 4 [.int .u64 tiI0, .int .u64 tiI1, .int .u64 tiI2, .int .u64 tiI3], .r 4 [.int .u64 caI0, .int .u64 caI1, .int .u64 caI2, .int .u64 caI3], .c (.v (.int .u64 Iga)), .c (.v (.bool (ar.nb cr))), .r 20 [.int .u8 o0, .int .u8 o1, .int .u8 o2, .int .u8 o3, .int .u8 o4, .int .u8 o5, .int .u8 o6, .int .u8 o7, .int .u8 o8, .int .u8 o9, .int .u8 o10, .int .u8 o11, .int .u8 o12, .int .u8 o13, .int .u8 o14, .int .u8 o15, .int .u8 o16, .int .u8 o17, .int .u8 o18, .int .u8 o19], .r 4 [.int .u64 vaI0, .int .u64 vaI1, .int .u64 vaI2, .int .u64 vaI3], .c (.sl D []), .c (.sl LA []), .r 4 [.int .u64 bcI0, .int .u64 bcI1, .int .u64 bcI2, .int .u64 bcI3], .c (.sl B []), .c (.sl U []), .r 4 [.int .u64 vI0, .int .u64 vI1, .int .u64 vI2, .int .u64 vI3], .r 4 [.int .u64 rI0, .int .u64 rI1, .int .u64 rI2, .int .u64 rI3], .r 4 [.int .u64 sI0, .int .u64 sI1, .int .u64 sI2, .int .u64 sI3]]] := by
      rw [hy, ← e]
      exact hk _ { ho0 with } { hf0 with } (fun e => hyne (congrArg Tx.cr e))
    exact hk2
  conv => cbv
  refine ⟨fun h => ?_, fun h => ?_⟩
  · clear h
    conv => cbv
    obtain ⟨y, hy⟩ : ∃ y, ar.ib .xor .u8 o19 1 = y := ⟨_, rfl⟩
    have hob := ho.tob
    have h19 := hob o19 (by simp)
    obtain ⟨hy0, hyne⟩ := xorU8 har (x := o19) (c := 1) h19 (by decide)
    rw [hy] at hy0 hyne
    have htb : bytesOk [o0, o1, o2, o3, o4, o5, o6, o7, o8, o9, o10, o11, o12, o13, o14, o15, o16, o17, o18, y] := fun x hx => by
      simp only [List.mem_cons, List.not_mem_nil, or_false] at hx
      rcases hx with rfl | rfl | rfl | rfl | rfl | rfl | rfl | rfl | rfl | rfl | rfl | rfl | rfl | rfl | rfl | rfl | rfl | rfl | rfl | rfl
      · exact hob _ (by simp)
      · exact hob _ (by simp)
      · exact hob _ (by simp)
      · exact hob _ (by simp)
      · exact hob _ (by simp)
      · exact hob _ (by simp)
      · exact hob _ (by simp)
      · exact hob _ (by simp)
      · exact hob _ (by simp)
      · exact hob _ (by simp)
      · exact hob _ (by simp)
      · exact hob _ (by simp)
      · exact hob _ (by simp)
      · exact hob _ (by simp)
      · exact hob _ (by simp)
      · exact hob _ (by simp)
      · exact hob _ (by simp)
      · exact hob _ (by simp)
      · exact hob _ (by simp)
      · exact hy0
    have e : Tx.row ⟨ty, ch, no, (v4 pr0 pr1 pr2 pr3), (v4 ti0 ti1 ti2 ti3), (v4 ca0 ca1 ca2 ca3), ga, cr, [o0, o1, o2, o3, o4, o5, o6, o7, o8, o9, o10, o11, o12, o13, o14, o15, o16, o17, o18, y], (v4 va0 va1 va2 va3), d, [], (ac.map Ent.lent), [], (v4 bc0 bc1 bc2 bc3), bl, [], au, [], (v4 v0 v1 v2 v3), (v4 r0 r1 r2 r3), (v4 s0 s1 s2 s3)⟩ = [.c (.v (.int .i64 ty)), .c (.v (.int .u64 Ich)), .c (.v (.int .u64 Ino)), .r 4 [.int .u64 prI0, .int .u64 prI1, .int .u64 prI2, .int .u64 prI3], .r 4 [.int .u64 tiI0, .int .u64 tiI1, .int .u64 tiI2, .int .u64 tiI3], .r 4 [.int .u64 caI0, .int .u64 caI1, .int .u64 caI2, .int .u64 caI3], .c (.v (.int .u64 Iga)), .c (.v (.bool cr)), .r 20 [.int .u8 o0, .int .u8 o1, .int .u8 o2, .int .u8 o3, .int .u8 o4, .int .u8 o5, .int .u8 o6, .int .u8 o7, .int .u8 o8, .int .u8 o9, .int .u8 o10, .int .u8 o11, .int .u8 o12, .int .u8 o13, .int .u8 o14, .int .u8 o15, .int .u8 o16, .int .u8 o17, .int .u8 o18, .int .u8 y], .r 4 [.int .u64 vaI0, .int .u64 vaI1, .int .u64 vaI2, .int .u64 vaI3], .c (.sl D []), .c (.sl LA []), .r 4 [.int .u64 bcI0, .int .u64 bcI1, .int .u64 bcI2, .int .u64 bcI3], .c (.sl B []), .c (.sl U []), .r 4 [.int .u64 vI0, .int .u64 vI1, .int .u64 vI2, .int .u64 vI3], .r 4 [.int .u64 rI0, .int .u64 rI1, .int .u64 rI2, .int .u64 rI3], .r 4 [.int .u64 sI0, .int .u64 sI1, .int .u64 sI2, .int .u64 sI3]] := by
        show txRow _ _ _ (w4 _) (w4 _) (w4 _) _ _ _ (w4 _) _ _ _ _ (w4 _) _ _ _ _ (w4 _) (w4 _) (w4 _) = _
        rw [w4_v4 hpr0 hpr1 hpr2 hpr3, w4_v4 hti0 hti1 hti2 hti3, w4_v4 hca0 hca1 hca2 hca3, w4_v4 hva0 hva1 hva2 hva3, w4_v4 hbc0 hbc1 hbc2 hbc3, w4_v4 hv0 hv1 hv2 hv3, w4_v4 hr0 hr1 hr2 hr3, w4_v4 hs0 hs1 hs2 hs3]
        simp only [hprI0, hprI1, hprI2, hprI3, htiI0, htiI1, htiI2, htiI3, hcaI0, hcaI1, hcaI2, hcaI3, hvaI0, hvaI1, hvaI2, hvaI3, hbcI0, hbcI1, hbcI2, hbcI3, hvI0, hvI1, hvI2, hvI3, hrI0, hrI1, hrI2, hrI3, hsI0, hsI1, hsI2, hsI3, hIch, hIno, hIga, hD, hLA, hB, hU]
        rfl
    have hk2 : k [.a [.c (.v (.int .i64 ty)), .c (.v (.int .u64 Ich)), .c (.v (.int .u64 Ino)), .r 4 [.int .u64 prI0, .int .u64 prI1, .int .u64 prI2, .int .u64 prI3], .r 4 [.int .u64 tiI0, .int .u64 tiI1, .int .u64 tiI2, .int .u64 tiI3], .r 4 [.int .u64 caI0, .int .u64 caI1, .int .u64 caI2, .int .u64 caI3], .c (.v (.int .u64 Iga)), .c (.v (.bool cr)), .r 20 [.int .u8 o0, .int .u8 o1, .int .u8 o2, .int .u8 o3, .int .u8 o4, .int .u8 o5, .int .u8 o6, .int .u8 o7, .int .u8 o8, .int .u8 o9, .int .u8 o10, .int .u8 o11, .int .u8 o12, .int .u8 o13, .int .u8 o14, .int .u8 o15, .int .u8 o16, .int .u8 o17, .int .u8 o18, .int .u8 (ar.ib .xor .u8 o19 1)], .r 4 [.int .u64 vaI0, .int .u64 vaI1, .int .u64 vaI2, .int .u64 vaI3], .c (.sl D []), .c (.sl LA []), .r 4 [.int .u64 bcI0, .int .u64 bcI1, .int .u64 bcI2, .int .u64 bcI3], .c (.sl B []), .c (.sl U []), .r 4 [.int .u64 vI0, .int .u64 vI1, .int .u64 vI2, .int .u64 vI3], .r 4 [.int .u64 rI0, .int .u64 rI1, .int .u64 rI2, .int .u64 rI3], .r 4 [.int .u64 sI0, .int .u64 sI1, .int .u64 sI2, .int .u64 sI3]]] := by
      rw [hy, ← e]
      exact hk _ { ho0 with to := rfl, tob := htb } { hf0 with } (fun e => hyne (by
        have h1 : [o0, o1, o2, o3, o4, o5, o6, o7, o8, o9, o10, o11, o12, o13, o14, o15, o16, o17, o18, y] = [o0, o1, o2, o3, o4, o5, o6, o7, o8, o9, o10, o11, o12, o13, o14, o15, o16, o17, o18, o19] := congrArg Tx.to e
        simpa using h1))
    exact hk2
  conv => cbv
  refine ⟨fun h => ?_, fun h => ?_⟩
  · clear h
    conv => cbv
    obtain ⟨n, hy, hnl, hyne⟩ := xorN har hvaI1 hva1 1 (by decide)
    obtain ⟨y, hn⟩ : ∃ y : Int, y = (n : Int) := ⟨_, rfl⟩
    rw [← hn] at hy
    have e : Tx.row ⟨ty, ch, no, (v4 pr0 pr1 pr2 pr3), (v4 ti0 ti1 ti2 ti3), (v4 ca0 ca1 ca2 ca3), ga, cr, [o0, o1, o2, o3, o4, o5, o6, o7, o8, o9, o10, o11, o12, o13, o14, o15, o16, o17, o18, o19], (v4 va0 n va2 va3), d, [], (ac.map Ent.lent), [], (v4 bc0 bc1 bc2 bc3), bl, [], au, [], (v4 v0 v1 v2 v3), (v4 r0 r1 r2 r3), (v4 s0 s1 s2 s3)⟩ = [.c (.v (.int .i64 ty)), .c (.v (.int .u64 Ich)), .c (.v (.int .u64 Ino)), .r 4 [.int .u64 prI0, .int .u64 prI1, .int .u64 prI2, .int .u64 prI3], .r 4 [.int .u64 tiI0, .int .u64 tiI1, .int .u64 tiI2, .int .u64 tiI3], .r 4 [.int .u64 caI0, .int .u64 caI1, .int .u64 caI2, .int .u64 caI3], .c (.v (.int .u64 Iga)), .c (.v (.bool cr)), .r 20 [.int .u8 o0, .int .u8 o1, .int .u8 o2, .int .u8 o3, .int .u8 o4, .int .u8 o5, .int .u8 o6, .int .u8 o7, .int .u8 o8, .int .u8 o9, .int .u8 o10, .int .u8 o11, .int .u8 o12, .int .u8 o13, .int .u8 o14, .int .u8 o15, .int .u8 o16, .int .u8 o17, .int .u8 o18, .int .u8 o19], .r 4 [.int .u64 vaI0, .int .u64 y, .int .u64 vaI2, .int .u64 vaI3], .c (.sl D []), .c (.sl LA []), .r 4 [.int .u64 bcI0, .int .u64 bcI1, .int .u64 bcI2, .int .u64 bcI3], .c (.sl B []), .c (.sl U []), .r 4 [.int .u64 vI0, .int .u64 vI1, .int .u64 vI2, .int .u64 vI3], .r 4 [.int .u64 rI0, .int .u64 rI1, .int .u64 rI2, .int .u64 rI3], .r 4 [.int .u64 sI0, .int .u64 sI1, .int .u64 sI2, .int .u64 sI3]] := by
        show txRow _ _ _ (w4 _) (w4 _) (w4 _) _ _ _ (w4 _) _ _ _ _ (w4 _) _ _ _ _ (w4 _) (w4 _) (w4 _) = _
        rw [w4_v4 hpr0 hpr1 hpr2 hpr3, w4_v4 hti0 hti1 hti2 hti3, w4_v4 hca0 hca1 hca2 hca3, w4_v4 hva0 hnl hva2 hva3, w4_v4 hbc0 hbc1 hbc2 hbc3, w4_v4 hv0 hv1 hv2 hv3, w4_v4 hr0 hr1 hr2 hr3, w4_v4 hs0 hs1 hs2 hs3]
        simp only [hprI0, hprI1, hprI2, hprI3, htiI0, htiI1, htiI2, htiI3, hcaI0, hcaI1, hcaI2, hcaI3, hvaI0, hvaI1, hvaI2, hvaI3, hbcI0, hbcI1, hbcI2, hbcI3, hvI0, hvI1, hvI2, hvI3, hrI0, hrI1, hrI2, hrI3, hsI0, hsI1, hsI2, hsI3, hIch, hIno, hIga, hD, hLA, hB, hU, hn]
        rfl
    have hk2 : k [.a [.c (.v (.int .i64 ty)), .c (.v (.int .u64 Ich)), .c (.v (.int .u64 Ino)), .r 4 [.int .u64 prI0, .int .u64 prI1, .int .u64 prI2, .int .u64 prI3], .r 4 [.int .u64 tiI0, .int .u64 tiI1, .int .u64 tiI2, .int .u64 tiI3], .r 4 [.int .u64 caI0, .int .u64 caI1, .int .u64 caI2, .int .u64 caI3], .c (.v (.int .u64 Iga)), .c (.v (.bool cr)), .r 20 [.int .u8 o0, .int .u8 o1, .int .u8 o2, .int .u8 o3, .int .u8 o4, .int .u8 o5, .int .u8 o6, .int .u8 o7, .int .u8 o8, .int .u8 o9, .int .u8 o10, .int .u8 o11, .int .u8 o12, .int .u8 o13, .int .u8 o14, .int .u8 o15, .int .u8 o16, .int .u8 o17, .int .u8 o18, .int .u8 o19], .r 4 [.int .u64 vaI0, .int .u64 (ar.ib .xor .u64 vaI1 1), .int .u64 vaI2, .int .u64 vaI3], .c (.sl D []), .c (.sl LA []), .r 4 [.int .u64 bcI0, .int .u64 bcI1, .int .u64 bcI2, .int .u64 bcI3], .c (.sl B []), .c (.sl U []), .r 4 [.int .u64 vI0, .int .u64 vI1, .int .u64 vI2, .int .u64 vI3], .r 4 [.int .u64 rI0, .int .u64 rI1, .int .u64 rI2, .int .u64 rI3], .r 4 [.int .u64 sI0, .int .u64 sI1, .int .u64 sI2, .int .u64 sI3]]] := by
      rw [hy, ← e]
      exact hk _ { ho0 with va := v4_lt hva0 hnl hva2 hva3 } { hf0 with } (fun e => v4_ne1 hyne (congrArg Tx.va e))
    exact hk2
  conv => cbv
  refine ⟨fun h => ?_, fun h => ?_⟩
  · clear h
    conv => cbv
    have hX : ar.app D [[.c (.v (.int .u8 0))]] = (d ++ [0]).map b8' := by rw [appIs har, hD, List.map_append]; rfl
    have hdl : d.length ≤ 2 ^ 27 := hf.d
    have hDn : D.length = d.length := by rw [hD, List.length_map]
    have callC : ∀ (Γ : Ctx) (d' : Nat) (k : List PR → Prop) (R : Prop), Γ = ctx Tryd.prog d' → k [.s (.ow D 5 1 1)] → Γ.g 12 [.s (.sl D [])] k ∨ R := fun Γ d' k R hΓ hk => call_by hΓ copied15w_sound ⟨d, [], by rw [hD]; rfl, Nat.le_trans hdl (by decide), by rw [hD] at hk; exact hk⟩
    have e : Tx.row ⟨ty, ch, no, (v4 pr0 pr1 pr2 pr3), (v4 ti0 ti1 ti2 ti3), (v4 ca0 ca1 ca2 ca3), ga, cr, [o0, o1, o2, o3, o4, o5, o6, o7, o8, o9, o10, o11, o12, o13, o14, o15, o16, o17, o18, o19], (v4 va0 va1 va2 va3), (d ++ [0]), [], (ac.map Ent.lent), [], (v4 bc0 bc1 bc2 bc3), bl, [], au, [], (v4 v0 v1 v2 v3), (v4 r0 r1 r2 r3), (v4 s0 s1 s2 s3)⟩ = [.c (.v (.int .i64 ty)), .c (.v (.int .u64 Ich)), .c (.v (.int .u64 Ino)), .r 4 [.int .u64 prI0, .int .u64 prI1, .int .u64 prI2, .int .u64 prI3], .r 4 [.int .u64 tiI0, .int .u64 tiI1, .int .u64 tiI2, .int .u64 tiI3], .r 4 [.int .u64 caI0, .int .u64 caI1, .int .u64 caI2, .int .u64 caI3], .c (.v (.int .u64 Iga)), .c (.v (.bool cr)), .r 20 [.int .u8 o0, .int .u8 o1, .int .u8 o2, .int .u8 o3, .int .u8 o4, .int .u8 o5, .int .u8 o6, .int .u8 o7, .int .u8 o8, .int .u8 o9, .int .u8 o10, .int .u8 o11, .int .u8 o12, .int .u8 o13, .int .u8 o14, .int .u8 o15, .int .u8 o16, .int .u8 o17, .int .u8 o18, .int .u8 o19], .r 4 [.int .u64 vaI0, .int .u64 vaI1, .int .u64 vaI2, .int .u64 vaI3], .c (.sl ((d ++ [0]).map b8') []), .c (.sl LA []), .r 4 [.int .u64 bcI0, .int .u64 bcI1, .int .u64 bcI2, .int .u64 bcI3], .c (.sl B []), .c (.sl U []), .r 4 [.int .u64 vI0, .int .u64 vI1, .int .u64 vI2, .int .u64 vI3], .r 4 [.int .u64 rI0, .int .u64 rI1, .int .u64 rI2, .int .u64 rI3], .r 4 [.int .u64 sI0, .int .u64 sI1, .int .u64 sI2, .int .u64 sI3]] := by
        show txRow _ _ _ (w4 _) (w4 _) (w4 _) _ _ _ (w4 _) _ _ _ _ (w4 _) _ _ _ _ (w4 _) (w4 _) (w4 _) = _
        rw [w4_v4 hpr0 hpr1 hpr2 hpr3, w4_v4 hti0 hti1 hti2 hti3, w4_v4 hca0 hca1 hca2 hca3, w4_v4 hva0 hva1 hva2 hva3, w4_v4 hbc0 hbc1 hbc2 hbc3, w4_v4 hv0 hv1 hv2 hv3, w4_v4 hr0 hr1 hr2 hr3, w4_v4 hs0 hs1 hs2 hs3]
        simp only [hprI0, hprI1, hprI2, hprI3, htiI0, htiI1, htiI2, htiI3, hcaI0, hcaI1, hcaI2, hcaI3, hvaI0, hvaI1, hvaI2, hvaI3, hbcI0, hbcI1, hbcI2, hbcI3, hvI0, hvI1, hvI2, hvI3, hrI0, hrI1, hrI2, hrI3, hsI0, hsI1, hsI2, hsI3, hIch, hIno, hIga, hD, hLA, hB, hU]
        rfl
    have hk2 : k [.a [.c (.v (.int .i64 ty)), .c (.v (.int .u64 Ich)), .c (.v (.int .u64 Ino)), .r 4 [.int .u64 prI0, .int .u64 prI1, .int .u64 prI2, .int .u64 prI3], .r 4 [.int .u64 tiI0, .int .u64 tiI1, .int .u64 tiI2, .int .u64 tiI3], .r 4 [.int .u64 caI0, .int .u64 caI1, .int .u64 caI2, .int .u64 caI3], .c (.v (.int .u64 Iga)), .c (.v (.bool cr)), .r 20 [.int .u8 o0, .int .u8 o1, .int .u8 o2, .int .u8 o3, .int .u8 o4, .int .u8 o5, .int .u8 o6, .int .u8 o7, .int .u8 o8, .int .u8 o9, .int .u8 o10, .int .u8 o11, .int .u8 o12, .int .u8 o13, .int .u8 o14, .int .u8 o15, .int .u8 o16, .int .u8 o17, .int .u8 o18, .int .u8 o19], .r 4 [.int .u64 vaI0, .int .u64 vaI1, .int .u64 vaI2, .int .u64 vaI3], .c (.sl (ar.app D [[.c (.v (.int .u8 0))]]) []), .c (.sl LA []), .r 4 [.int .u64 bcI0, .int .u64 bcI1, .int .u64 bcI2, .int .u64 bcI3], .c (.sl B []), .c (.sl U []), .r 4 [.int .u64 vI0, .int .u64 vI1, .int .u64 vI2, .int .u64 vI3], .r 4 [.int .u64 rI0, .int .u64 rI1, .int .u64 rI2, .int .u64 rI3], .r 4 [.int .u64 sI0, .int .u64 sI1, .int .u64 sI2, .int .u64 sI3]]] := by
      rw [hX, ← e]
      exact hk _ { ho0 with db := bytesOk_app2 ho.db (rep0 1) } ⟨len_app1 hdl, hf0.ac, hf0.bl, hf0.au⟩ (fun e => app1_ne (congrArg Tx.d e))
    have hS : (D.length + 1) * 1 ≤ 140737488355328 ∧ ∀ y ∈ [[PS.c (.v (.int .u8 0))]], rlen y = 1 := ⟨bnd (by rw [hD, List.length_map]; exact hsm.d) (by decide), fun y hy => by rw [List.mem_singleton] at hy; subst hy; rfl⟩
    refine callC _ _ _ _ hΓ ?_
    conv => cbv
    exact ⟨fun _ => hS, hk2⟩
  conv => cbv
  refine ⟨fun h => ?_, fun h => ?_⟩
  · clear h
    conv => cbv
    have hoF : ∀ e ∈ ac.map Ent.lent ++ [zE], e.a.length = 20 ∧ bytesOk e.a ∧ ∀ w ∈ e.ks, w.length = 32 ∧ bytesOk w := fun e he => by
      rcases List.mem_append.1 he with h | h
      · exact hoac e h
      · rw [List.mem_singleton] at h; subst h; exact ⟨rfl, rep0 20, fun w hw => by cases hw⟩
    have hX : ar.app LA [[.r 20 [.int .u8 0, .int .u8 0, .int .u8 0, .int .u8 0, .int .u8 0, .int .u8 0, .int .u8 0, .int .u8 0, .int .u8 0, .int .u8 0, .int .u8 0, .int .u8 0, .int .u8 0, .int .u8 0, .int .u8 0, .int .u8 0, .int .u8 0, .int .u8 0, .int .u8 0, .int .u8 0], .c (.sl [] [])]] = ((ac.map Ent.lent) ++ [zE]).map Ent.row := by rw [appIs har, hLA, List.map_append]; rfl
    have e : Tx.row ⟨ty, ch, no, (v4 pr0 pr1 pr2 pr3), (v4 ti0 ti1 ti2 ti3), (v4 ca0 ca1 ca2 ca3), ga, cr, [o0, o1, o2, o3, o4, o5, o6, o7, o8, o9, o10, o11, o12, o13, o14, o15, o16, o17, o18, o19], (v4 va0 va1 va2 va3), d, [], ((ac.map Ent.lent) ++ [zE]), [], (v4 bc0 bc1 bc2 bc3), bl, [], au, [], (v4 v0 v1 v2 v3), (v4 r0 r1 r2 r3), (v4 s0 s1 s2 s3)⟩ = [.c (.v (.int .i64 ty)), .c (.v (.int .u64 Ich)), .c (.v (.int .u64 Ino)), .r 4 [.int .u64 prI0, .int .u64 prI1, .int .u64 prI2, .int .u64 prI3], .r 4 [.int .u64 tiI0, .int .u64 tiI1, .int .u64 tiI2, .int .u64 tiI3], .r 4 [.int .u64 caI0, .int .u64 caI1, .int .u64 caI2, .int .u64 caI3], .c (.v (.int .u64 Iga)), .c (.v (.bool cr)), .r 20 [.int .u8 o0, .int .u8 o1, .int .u8 o2, .int .u8 o3, .int .u8 o4, .int .u8 o5, .int .u8 o6, .int .u8 o7, .int .u8 o8, .int .u8 o9, .int .u8 o10, .int .u8 o11, .int .u8 o12, .int .u8 o13, .int .u8 o14, .int .u8 o15, .int .u8 o16, .int .u8 o17, .int .u8 o18, .int .u8 o19], .r 4 [.int .u64 vaI0, .int .u64 vaI1, .int .u64 vaI2, .int .u64 vaI3], .c (.sl D []), .c (.sl (((ac.map Ent.lent) ++ [zE]).map Ent.row) []), .r 4 [.int .u64 bcI0, .int .u64 bcI1, .int .u64 bcI2, .int .u64 bcI3], .c (.sl B []), .c (.sl U []), .r 4 [.int .u64 vI0, .int .u64 vI1, .int .u64 vI2, .int .u64 vI3], .r 4 [.int .u64 rI0, .int .u64 rI1, .int .u64 rI2, .int .u64 rI3], .r 4 [.int .u64 sI0, .int .u64 sI1, .int .u64 sI2, .int .u64 sI3]] := by
        show txRow _ _ _ (w4 _) (w4 _) (w4 _) _ _ _ (w4 _) _ _ _ _ (w4 _) _ _ _ _ (w4 _) (w4 _) (w4 _) = _
        rw [w4_v4 hpr0 hpr1 hpr2 hpr3, w4_v4 hti0 hti1 hti2 hti3, w4_v4 hca0 hca1 hca2 hca3, w4_v4 hva0 hva1 hva2 hva3, w4_v4 hbc0 hbc1 hbc2 hbc3, w4_v4 hv0 hv1 hv2 hv3, w4_v4 hr0 hr1 hr2 hr3, w4_v4 hs0 hs1 hs2 hs3]
        simp only [hprI0, hprI1, hprI2, hprI3, htiI0, htiI1, htiI2, htiI3, hcaI0, hcaI1, hcaI2, hcaI3, hvaI0, hvaI1, hvaI2, hvaI3, hbcI0, hbcI1, hbcI2, hbcI3, hvI0, hvI1, hvI2, hvI3, hrI0, hrI1, hrI2, hrI3, hsI0, hsI1, hsI2, hsI3, hIch, hIno, hIga, hD, hLA, hB, hU]
        rfl
    have hk2 : k [.a [.c (.v (.int .i64 ty)), .c (.v (.int .u64 Ich)), .c (.v (.int .u64 Ino)), .r 4 [.int .u64 prI0, .int .u64 prI1, .int .u64 prI2, .int .u64 prI3], .r 4 [.int .u64 tiI0, .int .u64 tiI1, .int .u64 tiI2, .int .u64 tiI3], .r 4 [.int .u64 caI0, .int .u64 caI1, .int .u64 caI2, .int .u64 caI3], .c (.v (.int .u64 Iga)), .c (.v (.bool cr)), .r 20 [.int .u8 o0, .int .u8 o1, .int .u8 o2, .int .u8 o3, .int .u8 o4, .int .u8 o5, .int .u8 o6, .int .u8 o7, .int .u8 o8, .int .u8 o9, .int .u8 o10, .int .u8 o11, .int .u8 o12, .int .u8 o13, .int .u8 o14, .int .u8 o15, .int .u8 o16, .int .u8 o17, .int .u8 o18, .int .u8 o19], .r 4 [.int .u64 vaI0, .int .u64 vaI1, .int .u64 vaI2, .int .u64 vaI3], .c (.sl D []), .c (.sl (ar.app LA [[.r 20 [.int .u8 0, .int .u8 0, .int .u8 0, .int .u8 0, .int .u8 0, .int .u8 0, .int .u8 0, .int .u8 0, .int .u8 0, .int .u8 0, .int .u8 0, .int .u8 0, .int .u8 0, .int .u8 0, .int .u8 0, .int .u8 0, .int .u8 0, .int .u8 0, .int .u8 0, .int .u8 0], .c (.sl [] [])]]) []), .r 4 [.int .u64 bcI0, .int .u64 bcI1, .int .u64 bcI2, .int .u64 bcI3], .c (.sl B []), .c (.sl U []), .r 4 [.int .u64 vI0, .int .u64 vI1, .int .u64 vI2, .int .u64 vI3], .r 4 [.int .u64 rI0, .int .u64 rI1, .int .u64 rI2, .int .u64 rI3], .r 4 [.int .u64 sI0, .int .u64 sI1, .int .u64 sI2, .int .u64 sI3]]] := by
      rw [hX, ← e]
      exact hk _ { ho0 with ac := hoF } ⟨hf0.d, ac_app (by rw [hac]; exact hf.ac), hf0.bl, hf0.au⟩ (fun e => app1_ne (l := (ac.map Ent.lent).map Ent.cor) (x := zE.cor) (by have h1 : (ac.map Ent.lent ++ [zE]).map Ent.cor = ac.map Ent.cor := congrArg Tx.ac e; rw [List.map_append] at h1; refine h1.trans ?_; rw [List.map_map]; rfl))
    have hS : (LA.length + 1) * 48 ≤ 140737488355328 ∧ ∀ y ∈ [([.r 20 [.int .u8 0, .int .u8 0, .int .u8 0, .int .u8 0, .int .u8 0, .int .u8 0, .int .u8 0, .int .u8 0, .int .u8 0, .int .u8 0, .int .u8 0, .int .u8 0, .int .u8 0, .int .u8 0, .int .u8 0, .int .u8 0, .int .u8 0, .int .u8 0, .int .u8 0, .int .u8 0], .c (.sl [] [])] : List PS)], rlen y = 21 := ⟨bnd (by rw [hLA, List.length_map, List.length_map]; exact hsm.ac) (by decide), fun y hy => by rw [List.mem_singleton] at hy; subst hy; rfl⟩
    exact ⟨fun _ => hS, hk2⟩
  conv => cbv
  refine ⟨fun h => ?_, fun h => ?_⟩
  · clear h
    conv => cbv
    obtain ⟨n, hy, hnl, hyne⟩ := xorN har hbcI2 hbc2 1 (by decide)
    obtain ⟨y, hn⟩ : ∃ y : Int, y = (n : Int) := ⟨_, rfl⟩
    rw [← hn] at hy
    have e : Tx.row ⟨ty, ch, no, (v4 pr0 pr1 pr2 pr3), (v4 ti0 ti1 ti2 ti3), (v4 ca0 ca1 ca2 ca3), ga, cr, [o0, o1, o2, o3, o4, o5, o6, o7, o8, o9, o10, o11, o12, o13, o14, o15, o16, o17, o18, o19], (v4 va0 va1 va2 va3), d, [], (ac.map Ent.lent), [], (v4 bc0 bc1 n bc3), bl, [], au, [], (v4 v0 v1 v2 v3), (v4 r0 r1 r2 r3), (v4 s0 s1 s2 s3)⟩ = [.c (.v (.int .i64 ty)), .c (.v (.int .u64 Ich)), .c (.v (.int .u64 Ino)), .r 4 [.int .u64 prI0, .int .u64 prI1, .int .u64 prI2, .int .u64 prI3], .r 4 [.int .u64 tiI0, .int .u64 tiI1, .int .u64 tiI2, .int .u64 tiI3], .r 4 [.int .u64 caI0, .int .u64 caI1, .int .u64 caI2, .int .u64 caI3], .c (.v (.int .u64 Iga)), .c (.v (.bool cr)), .r 20 [.int .u8 o0, .int .u8 o1, .int .u8 o2, .int .u8 o3, .int .u8 o4, .int .u8 o5, .int .u8 o6, .int .u8 o7, .int .u8 o8, .int .u8 o9, .int .u8 o10, .int .u8 o11, .int .u8 o12, .int .u8 o13, .int .u8 o14, .int .u8 o15, .int .u8 o16, .int .u8 o17, .int .u8 o18, .int .u8 o19], .r 4 [.int .u64 vaI0, .int .u64 vaI1, .int .u64 vaI2, .int .u64 vaI3], .c (.sl D []), .c (.sl LA []), .r 4 [.int .u64 bcI0, .int .u64 bcI1, .int .u64 y, .int .u64 bcI3], .c (.sl B []), .c (.sl U []), .r 4 [.int .u64 vI0, .int .u64 vI1, .int .u64 vI2, .int .u64 vI3], .r 4 [.int .u64 rI0, .int .u64 rI1, .int .u64 rI2, .int .u64 rI3], .r 4 [.int .u64 sI0, .int .u64 sI1, .int .u64 sI2, .int .u64 sI3]] := by
        show txRow _ _ _ (w4 _) (w4 _) (w4 _) _ _ _ (w4 _) _ _ _ _ (w4 _) _ _ _ _ (w4 _) (w4 _) (w4 _) = _
        rw [w4_v4 hpr0 hpr1 hpr2 hpr3, w4_v4 hti0 hti1 hti2 hti3, w4_v4 hca0 hca1 hca2 hca3, w4_v4 hva0 hva1 hva2 hva3, w4_v4 hbc0 hbc1 hnl hbc3, w4_v4 hv0 hv1 hv2 hv3, w4_v4 hr0 hr1 hr2 hr3, w4_v4 hs0 hs1 hs2 hs3]
        simp only [hprI0, hprI1, hprI2, hprI3, htiI0, htiI1, htiI2, htiI3, hcaI0, hcaI1, hcaI2, hcaI3, hvaI0, hvaI1, hvaI2, hvaI3, hbcI0, hbcI1, hbcI2, hbcI3, hvI0, hvI1, hvI2, hvI3, hrI0, hrI1, hrI2, hrI3, hsI0, hsI1, hsI2, hsI3, hIch, hIno, hIga, hD, hLA, hB, hU, hn]
        rfl
    have hk2 : k [.a [.c (.v (.int .i64 ty)), .c (.v (.int .u64 Ich)), .c (.v (.int .u64 Ino)), .r 4 [.int .u64 prI0, .int .u64 prI1, .int .u64 prI2, .int .u64 prI3], .r 4 [.int .u64 tiI0, .int .u64 tiI1, .int .u64 tiI2, .int .u64 tiI3], .r 4 [.int .u64 caI0, .int .u64 caI1, .int .u64 caI2, .int .u64 caI3], .c (.v (.int .u64 Iga)), .c (.v (.bool cr)), .r 20 [.int .u8 o0, .int .u8 o1, .int .u8 o2, .int .u8 o3, .int .u8 o4, .int .u8 o5, .int .u8 o6, .int .u8 o7, .int .u8 o8, .int .u8 o9, .int .u8 o10, .int .u8 o11, .int .u8 o12, .int .u8 o13, .int .u8 o14, .int .u8 o15, .int .u8 o16, .int .u8 o17, .int .u8 o18, .int .u8 o19], .r 4 [.int .u64 vaI0, .int .u64 vaI1, .int .u64 vaI2, .int .u64 vaI3], .c (.sl D []), .c (.sl LA []), .r 4 [.int .u64 bcI0, .int .u64 bcI1, .int .u64 (ar.ib .xor .u64 bcI2 1), .int .u64 bcI3], .c (.sl B []), .c (.sl U []), .r 4 [.int .u64 vI0, .int .u64 vI1, .int .u64 vI2, .int .u64 vI3], .r 4 [.int .u64 rI0, .int .u64 rI1, .int .u64 rI2, .int .u64 rI3], .r 4 [.int .u64 sI0, .int .u64 sI1, .int .u64 sI2, .int .u64 sI3]]] := by
      rw [hy, ← e]
      exact hk _ { ho0 with bc := v4_lt hbc0 hbc1 hnl hbc3 } { hf0 with } (fun e => v4_ne2 hyne (congrArg Tx.bc e))
    exact hk2
  conv => cbv
  refine ⟨fun h => ?_, fun h => ?_⟩
  · clear h
    conv => cbv
    have hoF : ∀ w ∈ bl ++ [h1s], w.length = 32 ∧ bytesOk w := fun w hw => by
      rcases List.mem_append.1 hw with h | h
      · exact ho.bl w h
      · rw [List.mem_singleton] at h; subst h; exact ⟨rfl, fun x hx => by rcases List.mem_cons.1 hx with rfl | hx; omega; exact rep0 31 x hx⟩
    have hX : ar.app B [[.r 32 [.int .u8 1, .int .u8 0, .int .u8 0, .int .u8 0, .int .u8 0, .int .u8 0, .int .u8 0, .int .u8 0, .int .u8 0, .int .u8 0, .int .u8 0, .int .u8 0, .int .u8 0, .int .u8 0, .int .u8 0, .int .u8 0, .int .u8 0, .int .u8 0, .int .u8 0, .int .u8 0, .int .u8 0, .int .u8 0, .int .u8 0, .int .u8 0, .int .u8 0, .int .u8 0, .int .u8 0, .int .u8 0, .int .u8 0, .int .u8 0, .int .u8 0, .int .u8 0]]] = (bl ++ [h1s]).map key := by rw [appIs har, hB, List.map_append]; rfl
    have e : Tx.row ⟨ty, ch, no, (v4 pr0 pr1 pr2 pr3), (v4 ti0 ti1 ti2 ti3), (v4 ca0 ca1 ca2 ca3), ga, cr, [o0, o1, o2, o3, o4, o5, o6, o7, o8, o9, o10, o11, o12, o13, o14, o15, o16, o17, o18, o19], (v4 va0 va1 va2 va3), d, [], (ac.map Ent.lent), [], (v4 bc0 bc1 bc2 bc3), (bl ++ [h1s]), [], au, [], (v4 v0 v1 v2 v3), (v4 r0 r1 r2 r3), (v4 s0 s1 s2 s3)⟩ = [.c (.v (.int .i64 ty)), .c (.v (.int .u64 Ich)), .c (.v (.int .u64 Ino)), .r 4 [.int .u64 prI0, .int .u64 prI1, .int .u64 prI2, .int .u64 prI3], .r 4 [.int .u64 tiI0, .int .u64 tiI1, .int .u64 tiI2, .int .u64 tiI3], .r 4 [.int .u64 caI0, .int .u64 caI1, .int .u64 caI2, .int .u64 caI3], .c (.v (.int .u64 Iga)), .c (.v (.bool cr)), .r 20 [.int .u8 o0, .int .u8 o1, .int .u8 o2, .int .u8 o3, .int .u8 o4, .int .u8 o5, .int .u8 o6, .int .u8 o7, .int .u8 o8, .int .u8 o9, .int .u8 o10, .int .u8 o11, .int .u8 o12, .int .u8 o13, .int .u8 o14, .int .u8 o15, .int .u8 o16, .int .u8 o17, .int .u8 o18, .int .u8 o19], .r 4 [.int .u64 vaI0, .int .u64 vaI1, .int .u64 vaI2, .int .u64 vaI3], .c (.sl D []), .c (.sl LA []), .r 4 [.int .u64 bcI0, .int .u64 bcI1, .int .u64 bcI2, .int .u64 bcI3], .c (.sl ((bl ++ [h1s]).map key) []), .c (.sl U []), .r 4 [.int .u64 vI0, .int .u64 vI1, .int .u64 vI2, .int .u64 vI3], .r 4 [.int .u64 rI0, .int .u64 rI1, .int .u64 rI2, .int .u64 rI3], .r 4 [.int .u64 sI0, .int .u64 sI1, .int .u64 sI2, .int .u64 sI3]] := by
        show txRow _ _ _ (w4 _) (w4 _) (w4 _) _ _ _ (w4 _) _ _ _ _ (w4 _) _ _ _ _ (w4 _) (w4 _) (w4 _) = _
        rw [w4_v4 hpr0 hpr1 hpr2 hpr3, w4_v4 hti0 hti1 hti2 hti3, w4_v4 hca0 hca1 hca2 hca3, w4_v4 hva0 hva1 hva2 hva3, w4_v4 hbc0 hbc1 hbc2 hbc3, w4_v4 hv0 hv1 hv2 hv3, w4_v4 hr0 hr1 hr2 hr3, w4_v4 hs0 hs1 hs2 hs3]
        simp only [hprI0, hprI1, hprI2, hprI3, htiI0, htiI1, htiI2, htiI3, hcaI0, hcaI1, hcaI2, hcaI3, hvaI0, hvaI1, hvaI2, hvaI3, hbcI0, hbcI1, hbcI2, hbcI3, hvI0, hvI1, hvI2, hvI3, hrI0, hrI1, hrI2, hrI3, hsI0, hsI1, hsI2, hsI3, hIch, hIno, hIga, hD, hLA, hB, hU]
        rfl
    have hk2 : k [.a [.c (.v (.int .i64 ty)), .c (.v (.int .u64 Ich)), .c (.v (.int .u64 Ino)), .r 4 [.int .u64 prI0, .int .u64 prI1, .int .u64 prI2, .int .u64 prI3], .r 4 [.int .u64 tiI0, .int .u64 tiI1, .int .u64 tiI2, .int .u64 tiI3], .r 4 [.int .u64 caI0, .int .u64 caI1, .int .u64 caI2, .int .u64 caI3], .c (.v (.int .u64 Iga)), .c (.v (.bool cr)), .r 20 [.int .u8 o0, .int .u8 o1, .int .u8 o2, .int .u8 o3, .int .u8 o4, .int .u8 o5, .int .u8 o6, .int .u8 o7, .int .u8 o8, .int .u8 o9, .int .u8 o10, .int .u8 o11, .int .u8 o12, .int .u8 o13, .int .u8 o14, .int .u8 o15, .int .u8 o16, .int .u8 o17, .int .u8 o18, .int .u8 o19], .r 4 [.int .u64 vaI0, .int .u64 vaI1, .int .u64 vaI2, .int .u64 vaI3], .c (.sl D []), .c (.sl LA []), .r 4 [.int .u64 bcI0, .int .u64 bcI1, .int .u64 bcI2, .int .u64 bcI3], .c (.sl (ar.app B [[.r 32 [.int .u8 1, .int .u8 0, .int .u8 0, .int .u8 0, .int .u8 0, .int .u8 0, .int .u8 0, .int .u8 0, .int .u8 0, .int .u8 0, .int .u8 0, .int .u8 0, .int .u8 0, .int .u8 0, .int .u8 0, .int .u8 0, .int .u8 0, .int .u8 0, .int .u8 0, .int .u8 0, .int .u8 0, .int .u8 0, .int .u8 0, .int .u8 0, .int .u8 0, .int .u8 0, .int .u8 0, .int .u8 0, .int .u8 0, .int .u8 0, .int .u8 0, .int .u8 0]]]) []), .c (.sl U []), .r 4 [.int .u64 vI0, .int .u64 vI1, .int .u64 vI2, .int .u64 vI3], .r 4 [.int .u64 rI0, .int .u64 rI1, .int .u64 rI2, .int .u64 rI3], .r 4 [.int .u64 sI0, .int .u64 sI1, .int .u64 sI2, .int .u64 sI3]]] := by
      rw [hX, ← e]
      exact hk _ { ho0 with bl := hoF } ⟨hf0.d, hf0.ac, len_app33 hf.bl, hf0.au⟩ (fun e => app1_ne (congrArg Tx.bl e))
    have hS : (B.length + 1) * 32 ≤ 140737488355328 ∧ ∀ y ∈ [([.r 32 [.int .u8 1, .int .u8 0, .int .u8 0, .int .u8 0, .int .u8 0, .int .u8 0, .int .u8 0, .int .u8 0, .int .u8 0, .int .u8 0, .int .u8 0, .int .u8 0, .int .u8 0, .int .u8 0, .int .u8 0, .int .u8 0, .int .u8 0, .int .u8 0, .int .u8 0, .int .u8 0, .int .u8 0, .int .u8 0, .int .u8 0, .int .u8 0, .int .u8 0, .int .u8 0, .int .u8 0, .int .u8 0, .int .u8 0, .int .u8 0, .int .u8 0, .int .u8 0]] : List PS)], rlen y = 32 := ⟨bnd (by rw [hB, List.length_map]; exact hsm.bl) (by decide), fun y hy => by rw [List.mem_singleton] at hy; subst hy; rfl⟩
    exact ⟨fun _ => hS, hk2⟩
  conv => cbv
  refine ⟨fun h => ?_, fun h => ?_⟩
  · clear h
    conv => cbv
    have hoF : ∀ u ∈ au ++ [zAuJ], u.ok ∧ bytesOk u.a := fun u hu => by
      rcases List.mem_append.1 hu with h | h
      · exact ho.au u h
      · rw [List.mem_singleton] at h; subst h; exact ⟨⟨by decide, rfl, by decide, by decide, by decide, by decide⟩, rep0 20⟩
    have hX : ar.app U [[.r 4 [.int .u64 0, .int .u64 0, .int .u64 0, .int .u64 0], .r 20 [.int .u8 0, .int .u8 0, .int .u8 0, .int .u8 0, .int .u8 0, .int .u8 0, .int .u8 0, .int .u8 0, .int .u8 0, .int .u8 0, .int .u8 0, .int .u8 0, .int .u8 0, .int .u8 0, .int .u8 0, .int .u8 0, .int .u8 0, .int .u8 0, .int .u8 0, .int .u8 0], .c (.v (.int .u64 0)), .c (.v (.int .u64 0)), .r 4 [.int .u64 0, .int .u64 0, .int .u64 0, .int .u64 0], .r 4 [.int .u64 0, .int .u64 0, .int .u64 0, .int .u64 0]]] = (au ++ [zAuJ]).map Au.row := by rw [appIs har, hU, List.map_append]; rfl
    have e : Tx.row ⟨ty, ch, no, (v4 pr0 pr1 pr2 pr3), (v4 ti0 ti1 ti2 ti3), (v4 ca0 ca1 ca2 ca3), ga, cr, [o0, o1, o2, o3, o4, o5, o6, o7, o8, o9, o10, o11, o12, o13, o14, o15, o16, o17, o18, o19], (v4 va0 va1 va2 va3), d, [], (ac.map Ent.lent), [], (v4 bc0 bc1 bc2 bc3), bl, [], (au ++ [zAuJ]), [], (v4 v0 v1 v2 v3), (v4 r0 r1 r2 r3), (v4 s0 s1 s2 s3)⟩ = [.c (.v (.int .i64 ty)), .c (.v (.int .u64 Ich)), .c (.v (.int .u64 Ino)), .r 4 [.int .u64 prI0, .int .u64 prI1, .int .u64 prI2, .int .u64 prI3], .r 4 [.int .u64 tiI0, .int .u64 tiI1, .int .u64 tiI2, .int .u64 tiI3], .r 4 [.int .u64 caI0, .int .u64 caI1, .int .u64 caI2, .int .u64 caI3], .c (.v (.int .u64 Iga)), .c (.v (.bool cr)), .r 20 [.int .u8 o0, .int .u8 o1, .int .u8 o2, .int .u8 o3, .int .u8 o4, .int .u8 o5, .int .u8 o6, .int .u8 o7, .int .u8 o8, .int .u8 o9, .int .u8 o10, .int .u8 o11, .int .u8 o12, .int .u8 o13, .int .u8 o14, .int .u8 o15, .int .u8 o16, .int .u8 o17, .int .u8 o18, .int .u8 o19], .r 4 [.int .u64 vaI0, .int .u64 vaI1, .int .u64 vaI2, .int .u64 vaI3], .c (.sl D []), .c (.sl LA []), .r 4 [.int .u64 bcI0, .int .u64 bcI1, .int .u64 bcI2, .int .u64 bcI3], .c (.sl B []), .c (.sl ((au ++ [zAuJ]).map Au.row) []), .r 4 [.int .u64 vI0, .int .u64 vI1, .int .u64 vI2, .int .u64 vI3], .r 4 [.int .u64 rI0, .int .u64 rI1, .int .u64 rI2, .int .u64 rI3], .r 4 [.int .u64 sI0, .int .u64 sI1, .int .u64 sI2, .int .u64 sI3]] := by
        show txRow _ _ _ (w4 _) (w4 _) (w4 _) _ _ _ (w4 _) _ _ _ _ (w4 _) _ _ _ _ (w4 _) (w4 _) (w4 _) = _
        rw [w4_v4 hpr0 hpr1 hpr2 hpr3, w4_v4 hti0 hti1 hti2 hti3, w4_v4 hca0 hca1 hca2 hca3, w4_v4 hva0 hva1 hva2 hva3, w4_v4 hbc0 hbc1 hbc2 hbc3, w4_v4 hv0 hv1 hv2 hv3, w4_v4 hr0 hr1 hr2 hr3, w4_v4 hs0 hs1 hs2 hs3]
        simp only [hprI0, hprI1, hprI2, hprI3, htiI0, htiI1, htiI2, htiI3, hcaI0, hcaI1, hcaI2, hcaI3, hvaI0, hvaI1, hvaI2, hvaI3, hbcI0, hbcI1, hbcI2, hbcI3, hvI0, hvI1, hvI2, hvI3, hrI0, hrI1, hrI2, hrI3, hsI0, hsI1, hsI2, hsI3, hIch, hIno, hIga, hD, hLA, hB, hU]
        rfl
    have hk2 : k [.a [.c (.v (.int .i64 ty)), .c (.v (.int .u64 Ich)), .c (.v (.int .u64 Ino)), .r 4 [.int .u64 prI0, .int .u64 prI1, .int .u64 prI2, .int .u64 prI3], .r 4 [.int .u64 tiI0, .int .u64 tiI1, .int .u64 tiI2, .int .u64 tiI3], .r 4 [.int .u64 caI0, .int .u64 caI1, .int .u64 caI2, .int .u64 caI3], .c (.v (.int .u64 Iga)), .c (.v (.bool cr)), .r 20 [.int .u8 o0, .int .u8 o1, .int .u8 o2, .int .u8 o3, .int .u8 o4, .int .u8 o5, .int .u8 o6, .int .u8 o7, .int .u8 o8, .int .u8 o9, .int .u8 o10, .int .u8 o11, .int .u8 o12, .int .u8 o13, .int .u8 o14, .int .u8 o15, .int .u8 o16, .int .u8 o17, .int .u8 o18, .int .u8 o19], .r 4 [.int .u64 vaI0, .int .u64 vaI1, .int .u64 vaI2, .int .u64 vaI3], .c (.sl D []), .c (.sl LA []), .r 4 [.int .u64 bcI0, .int .u64 bcI1, .int .u64 bcI2, .int .u64 bcI3], .c (.sl B []), .c (.sl (ar.app U [[.r 4 [.int .u64 0, .int .u64 0, .int .u64 0, .int .u64 0], .r 20 [.int .u8 0, .int .u8 0, .int .u8 0, .int .u8 0, .int .u8 0, .int .u8 0, .int .u8 0, .int .u8 0, .int .u8 0, .int .u8 0, .int .u8 0, .int .u8 0, .int .u8 0, .int .u8 0, .int .u8 0, .int .u8 0, .int .u8 0, .int .u8 0, .int .u8 0, .int .u8 0], .c (.v (.int .u64 0)), .c (.v (.int .u64 0)), .r 4 [.int .u64 0, .int .u64 0, .int .u64 0, .int .u64 0], .r 4 [.int .u64 0, .int .u64 0, .int .u64 0, .int .u64 0]]]) []), .r 4 [.int .u64 vI0, .int .u64 vI1, .int .u64 vI2, .int .u64 vI3], .r 4 [.int .u64 rI0, .int .u64 rI1, .int .u64 rI2, .int .u64 rI3], .r 4 [.int .u64 sI0, .int .u64 sI1, .int .u64 sI2, .int .u64 sI3]]] := by
      rw [hX, ← e]
      exact hk _ { ho0 with au := hoF } ⟨hf0.d, hf0.ac, hf0.bl, au_app hf.au⟩ (fun e => app1_ne (congrArg Tx.au e))
    have hS : (U.length + 1) * 136 ≤ 140737488355328 ∧ ∀ y ∈ [([.r 4 [.int .u64 0, .int .u64 0, .int .u64 0, .int .u64 0], .r 20 [.int .u8 0, .int .u8 0, .int .u8 0, .int .u8 0, .int .u8 0, .int .u8 0, .int .u8 0, .int .u8 0, .int .u8 0, .int .u8 0, .int .u8 0, .int .u8 0, .int .u8 0, .int .u8 0, .int .u8 0, .int .u8 0, .int .u8 0, .int .u8 0, .int .u8 0, .int .u8 0], .c (.v (.int .u64 0)), .c (.v (.int .u64 0)), .r 4 [.int .u64 0, .int .u64 0, .int .u64 0, .int .u64 0], .r 4 [.int .u64 0, .int .u64 0, .int .u64 0, .int .u64 0]] : List PS)], rlen y = 34 := ⟨bnd (by rw [hU, List.length_map]; exact hsm.au) (by decide), fun y hy => by rw [List.mem_singleton] at hy; subst hy; rfl⟩
    exact ⟨fun _ => hS, hk2⟩
  conv => cbv
  refine ⟨fun h => ?_, fun h => ?_⟩
  · clear h
    conv => cbv
    obtain ⟨n, hy, hnl, hyne⟩ := xorN har hvI0 hv0 1 (by decide)
    obtain ⟨y, hn⟩ : ∃ y : Int, y = (n : Int) := ⟨_, rfl⟩
    rw [← hn] at hy
    have e : Tx.row ⟨ty, ch, no, (v4 pr0 pr1 pr2 pr3), (v4 ti0 ti1 ti2 ti3), (v4 ca0 ca1 ca2 ca3), ga, cr, [o0, o1, o2, o3, o4, o5, o6, o7, o8, o9, o10, o11, o12, o13, o14, o15, o16, o17, o18, o19], (v4 va0 va1 va2 va3), d, [], (ac.map Ent.lent), [], (v4 bc0 bc1 bc2 bc3), bl, [], au, [], (v4 n v1 v2 v3), (v4 r0 r1 r2 r3), (v4 s0 s1 s2 s3)⟩ = [.c (.v (.int .i64 ty)), .c (.v (.int .u64 Ich)), .c (.v (.int .u64 Ino)), .r 4 [.int .u64 prI0, .int .u64 prI1, .int .u64 prI2, .int .u64 prI3], .r 4 [.int .u64 tiI0, .int .u64 tiI1, .int .u64 tiI2, .int .u64 tiI3], .r 4 [.int .u64 caI0, .int .u64 caI1, .int .u64 caI2, .int .u64 caI3], .c (.v (.int .u64 Iga)), .c (.v (.bool cr)), .r 20 [.int .u8 o0, .int .u8 o1, .int .u8 o2, .int .u8 o3, .int .u8 o4, .int .u8 o5, .int .u8 o6, .int .u8 o7, .int .u8 o8, .int .u8 o9, .int .u8 o10, .int .u8 o11, .int .u8 o12, .int .u8 o13, .int .u8 o14, .int .u8 o15, .int .u8 o16, .int .u8 o17, .int .u8 o18, .int .u8 o19], .r 4 [.int .u64 vaI0, .int .u64 vaI1, .int .u64 vaI2, .int .u64 vaI3], .c (.sl D []), .c (.sl LA []), .r 4 [.int .u64 bcI0, .int .u64 bcI1, .int .u64 bcI2, .int .u64 bcI3], .c (.sl B []), .c (.sl U []), .r 4 [.int .u64 y, .int .u64 vI1, .int .u64 vI2, .int .u64 vI3], .r 4 [.int .u64 rI0, .int .u64 rI1, .int .u64 rI2, .int .u64 rI3], .r 4 [.int .u64 sI0, .int .u64 sI1, .int .u64 sI2, .int .u64 sI3]] := by
        show txRow _ _ _ (w4 _) (w4 _) (w4 _) _ _ _ (w4 _) _ _ _ _ (w4 _) _ _ _ _ (w4 _) (w4 _) (w4 _) = _
        rw [w4_v4 hpr0 hpr1 hpr2 hpr3, w4_v4 hti0 hti1 hti2 hti3, w4_v4 hca0 hca1 hca2 hca3, w4_v4 hva0 hva1 hva2 hva3, w4_v4 hbc0 hbc1 hbc2 hbc3, w4_v4 hnl hv1 hv2 hv3, w4_v4 hr0 hr1 hr2 hr3, w4_v4 hs0 hs1 hs2 hs3]
        simp only [hprI0, hprI1, hprI2, hprI3, htiI0, htiI1, htiI2, htiI3, hcaI0, hcaI1, hcaI2, hcaI3, hvaI0, hvaI1, hvaI2, hvaI3, hbcI0, hbcI1, hbcI2, hbcI3, hvI0, hvI1, hvI2, hvI3, hrI0, hrI1, hrI2, hrI3, hsI0, hsI1, hsI2, hsI3, hIch, hIno, hIga, hD, hLA, hB, hU, hn]
        rfl
    have hk2 : k [.a [.c (.v (.int .i64 ty)), .c (.v (.int .u64 Ich)), .c (.v (.int .u64 Ino)), .r 4 [.int .u64 prI0, .int .u64 prI1, .int .u64 prI2, .int .u64 prI3], .r 4 [.int .u64 tiI0, .int .u64 tiI1, .int .u64 tiI2, .int .u64 tiI3], .r 4 [.int .u64 caI0, .int .u64 caI1, .int .u64 caI2, .int .u64 caI3], .c (.v (.int .u64 Iga)), .c (.v (.bool cr)), .r 20 [.int .u8 o0, .int .u8 o1, .int .u8 o2, .int .u8 o3, .int .u8 o4, .int .u8 o5, .int .u8 o6, .int .u8 o7, .int .u8 o8, .int .u8 o9, .int .u8 o10, .int .u8 o11, .int .u8 o12, .int .u8 o13, .int .u8 o14, .int .u8 o15, .int .u8 o16, .int .u8 o17, .int .u8 o18, .int .u8 o19], .r 4 [.int .u64 vaI0, .int .u64 vaI1, .int .u64 vaI2, .int .u64 vaI3], .c (.sl D []), .c (.sl LA []), .r 4 [.int .u64 bcI0, .int .u64 bcI1, .int .u64 bcI2, .int .u64 bcI3], .c (.sl B []), .c (.sl U []), .r 4 [.int .u64 (ar.ib .xor .u64 vI0 1), .int .u64 vI1, .int .u64 vI2, .int .u64 vI3], .r 4 [.int .u64 rI0, .int .u64 rI1, .int .u64 rI2, .int .u64 rI3], .r 4 [.int .u64 sI0, .int .u64 sI1, .int .u64 sI2, .int .u64 sI3]]] := by
      rw [hy, ← e]
      exact hk _ { ho0 with v := v4_lt hnl hv1 hv2 hv3 } { hf0 with } (fun e => v4_ne0 hyne (congrArg Tx.v e))
    exact hk2
  conv => cbv
  refine ⟨fun h => ?_, fun h => ?_⟩
  · clear h
    conv => cbv
    obtain ⟨n, hy, hnl, hyne⟩ := xorN har hrI0 hr0 1 (by decide)
    obtain ⟨y, hn⟩ : ∃ y : Int, y = (n : Int) := ⟨_, rfl⟩
    rw [← hn] at hy
    have e : Tx.row ⟨ty, ch, no, (v4 pr0 pr1 pr2 pr3), (v4 ti0 ti1 ti2 ti3), (v4 ca0 ca1 ca2 ca3), ga, cr, [o0, o1, o2, o3, o4, o5, o6, o7, o8, o9, o10, o11, o12, o13, o14, o15, o16, o17, o18, o19], (v4 va0 va1 va2 va3), d, [], (ac.map Ent.lent), [], (v4 bc0 bc1 bc2 bc3), bl, [], au, [], (v4 v0 v1 v2 v3), (v4 n r1 r2 r3), (v4 s0 s1 s2 s3)⟩ = [.c (.v (.int .i64 ty)), .c (.v (.int .u64 Ich)), .c (.v (.int .u64 Ino)), .r 4 [.int .u64 prI0, .int .u64 prI1, .int .u64 prI2, .int .u64 prI3], .r 4 [.int .u64 tiI0, .int .u64 tiI1, .int .u64 tiI2, .int .u64 tiI3], .r 4 [.int .u64 caI0, .int .u64 caI1, .int .u64 caI2, .int .u64 caI3], .c (.v (.int .u64 Iga)), .c (.v (.bool cr)), .r 20 [.int .u8 o0, .int .u8 o1, .int .u8 o2, .int .u8 o3, .int .u8 o4, .int .u8 o5, .int .u8 o6, .int .u8 o7, .int .u8 o8, .int .u8 o9, .int .u8 o10, .int .u8 o11, .int .u8 o12, .int .u8 o13, .int .u8 o14, .int .u8 o15, .int .u8 o16, .int .u8 o17, .int .u8 o18, .int .u8 o19], .r 4 [.int .u64 vaI0, .int .u64 vaI1, .int .u64 vaI2, .int .u64 vaI3], .c (.sl D []), .c (.sl LA []), .r 4 [.int .u64 bcI0, .int .u64 bcI1, .int .u64 bcI2, .int .u64 bcI3], .c (.sl B []), .c (.sl U []), .r 4 [.int .u64 vI0, .int .u64 vI1, .int .u64 vI2, .int .u64 vI3], .r 4 [.int .u64 y, .int .u64 rI1, .int .u64 rI2, .int .u64 rI3], .r 4 [.int .u64 sI0, .int .u64 sI1, .int .u64 sI2, .int .u64 sI3]] := by
        show txRow _ _ _ (w4 _) (w4 _) (w4 _) _ _ _ (w4 _) _ _ _ _ (w4 _) _ _ _ _ (w4 _) (w4 _) (w4 _) = _
        rw [w4_v4 hpr0 hpr1 hpr2 hpr3, w4_v4 hti0 hti1 hti2 hti3, w4_v4 hca0 hca1 hca2 hca3, w4_v4 hva0 hva1 hva2 hva3, w4_v4 hbc0 hbc1 hbc2 hbc3, w4_v4 hv0 hv1 hv2 hv3, w4_v4 hnl hr1 hr2 hr3, w4_v4 hs0 hs1 hs2 hs3]
        simp only [hprI0, hprI1, hprI2, hprI3, htiI0, htiI1, htiI2, htiI3, hcaI0, hcaI1, hcaI2, hcaI3, hvaI0, hvaI1, hvaI2, hvaI3, hbcI0, hbcI1, hbcI2, hbcI3, hvI0, hvI1, hvI2, hvI3, hrI0, hrI1, hrI2, hrI3, hsI0, hsI1, hsI2, hsI3, hIch, hIno, hIga, hD, hLA, hB, hU, hn]
        rfl
    have hk2 : k [.a [.c (.v (.int .i64 ty)), .c (.v (.int .u64 Ich)), .c (.v (.int .u64 Ino)), .r 4 [.int .u64 prI0, .int .u64 prI1, .int .u64 prI2, .int .u64 prI3], .r 4 [.int .u64 tiI0, .int .u64 tiI1, .int .u64 tiI2, .int .u64 tiI3], .r 4 [.int .u64 caI0, .int .u64 caI1, .int .u64 caI2, .int .u64 caI3], .c (.v (.int .u64 Iga)), .c (.v (.bool cr)), .r 20 [.int .u8 o0, .int .u8 o1, .int .u8 o2, .int .u8 o3, .int .u8 o4, .int .u8 o5, .int .u8 o6, .int .u8 o7, .int .u8 o8, .int .u8 o9, .int .u8 o10, .int .u8 o11, .int .u8 o12, .int .u8 o13, .int .u8 o14, .int .u8 o15, .int .u8 o16, .int .u8 o17, .int .u8 o18, .int .u8 o19], .r 4 [.int .u64 vaI0, .int .u64 vaI1, .int .u64 vaI2, .int .u64 vaI3], .c (.sl D []), .c (.sl LA []), .r 4 [.int .u64 bcI0, .int .u64 bcI1, .int .u64 bcI2, .int .u64 bcI3], .c (.sl B []), .c (.sl U []), .r 4 [.int .u64 vI0, .int .u64 vI1, .int .u64 vI2, .int .u64 vI3], .r 4 [.int .u64 (ar.ib .xor .u64 rI0 1), .int .u64 rI1, .int .u64 rI2, .int .u64 rI3], .r 4 [.int .u64 sI0, .int .u64 sI1, .int .u64 sI2, .int .u64 sI3]]] := by
      rw [hy, ← e]
      exact hk _ { ho0 with r := v4_lt hnl hr1 hr2 hr3 } { hf0 with } (fun e => v4_ne0 hyne (congrArg Tx.r e))
    exact hk2
  conv => cbv
  obtain ⟨n, hy, hnl, hyne⟩ := xorN har hsI0 hs0 1 (by decide)
  obtain ⟨y, hn⟩ : ∃ y : Int, y = (n : Int) := ⟨_, rfl⟩
  rw [← hn] at hy
  have e : Tx.row ⟨ty, ch, no, (v4 pr0 pr1 pr2 pr3), (v4 ti0 ti1 ti2 ti3), (v4 ca0 ca1 ca2 ca3), ga, cr, [o0, o1, o2, o3, o4, o5, o6, o7, o8, o9, o10, o11, o12, o13, o14, o15, o16, o17, o18, o19], (v4 va0 va1 va2 va3), d, [], (ac.map Ent.lent), [], (v4 bc0 bc1 bc2 bc3), bl, [], au, [], (v4 v0 v1 v2 v3), (v4 r0 r1 r2 r3), (v4 n s1 s2 s3)⟩ = [.c (.v (.int .i64 ty)), .c (.v (.int .u64 Ich)), .c (.v (.int .u64 Ino)), .r 4 [.int .u64 prI0, .int .u64 prI1, .int .u64 prI2, .int .u64 prI3], .r 4 [.int .u64 tiI0, .int .u64 tiI1, .int .u64 tiI2, .int .u64 tiI3], .r 4 [.int .u64 caI0, .int .u64 caI1, .int .u64 caI2, .int .u64 caI3], .c (.v (.int .u64 Iga)), .c (.v (.bool cr)), .r 20 [.int .u8 o0, .int .u8 o1, .int .u8 o2, .int .u8 o3, .int .u8 o4, .int .u8 o5, .int .u8 o6, .int .u8 o7, .int .u8 o8, .int .u8 o9, .int .u8 o10, .int .u8 o11, .int .u8 o12, .int .u8 o13, .int .u8 o14, .int .u8 o15, .int .u8 o16, .int .u8 o17, .int .u8 o18, .int .u8 o19], .r 4 [.int .u64 vaI0, .int .u64 vaI1, .int .u64 vaI2, .int .u64 vaI3], .c (.sl D []), .c (.sl LA []), .r 4 [.int .u64 bcI0, .int .u64 bcI1, .int .u64 bcI2, .int .u64 bcI3], .c (.sl B []), .c (.sl U []), .r 4 [.int .u64 vI0, .int .u64 vI1, .int .u64 vI2, .int .u64 vI3], .r 4 [.int .u64 rI0, .int .u64 rI1, .int .u64 rI2, .int .u64 rI3], .r 4 [.int .u64 y, .int .u64 sI1, .int .u64 sI2, .int .u64 sI3]] := by
      show txRow _ _ _ (w4 _) (w4 _) (w4 _) _ _ _ (w4 _) _ _ _ _ (w4 _) _ _ _ _ (w4 _) (w4 _) (w4 _) = _
      rw [w4_v4 hpr0 hpr1 hpr2 hpr3, w4_v4 hti0 hti1 hti2 hti3, w4_v4 hca0 hca1 hca2 hca3, w4_v4 hva0 hva1 hva2 hva3, w4_v4 hbc0 hbc1 hbc2 hbc3, w4_v4 hv0 hv1 hv2 hv3, w4_v4 hr0 hr1 hr2 hr3, w4_v4 hnl hs1 hs2 hs3]
      simp only [hprI0, hprI1, hprI2, hprI3, htiI0, htiI1, htiI2, htiI3, hcaI0, hcaI1, hcaI2, hcaI3, hvaI0, hvaI1, hvaI2, hvaI3, hbcI0, hbcI1, hbcI2, hbcI3, hvI0, hvI1, hvI2, hvI3, hrI0, hrI1, hrI2, hrI3, hsI0, hsI1, hsI2, hsI3, hIch, hIno, hIga, hD, hLA, hB, hU, hn]
      rfl
  have hk2 : k [.a [.c (.v (.int .i64 ty)), .c (.v (.int .u64 Ich)), .c (.v (.int .u64 Ino)), .r 4 [.int .u64 prI0, .int .u64 prI1, .int .u64 prI2, .int .u64 prI3], .r 4 [.int .u64 tiI0, .int .u64 tiI1, .int .u64 tiI2, .int .u64 tiI3], .r 4 [.int .u64 caI0, .int .u64 caI1, .int .u64 caI2, .int .u64 caI3], .c (.v (.int .u64 Iga)), .c (.v (.bool cr)), .r 20 [.int .u8 o0, .int .u8 o1, .int .u8 o2, .int .u8 o3, .int .u8 o4, .int .u8 o5, .int .u8 o6, .int .u8 o7, .int .u8 o8, .int .u8 o9, .int .u8 o10, .int .u8 o11, .int .u8 o12, .int .u8 o13, .int .u8 o14, .int .u8 o15, .int .u8 o16, .int .u8 o17, .int .u8 o18, .int .u8 o19], .r 4 [.int .u64 vaI0, .int .u64 vaI1, .int .u64 vaI2, .int .u64 vaI3], .c (.sl D []), .c (.sl LA []), .r 4 [.int .u64 bcI0, .int .u64 bcI1, .int .u64 bcI2, .int .u64 bcI3], .c (.sl B []), .c (.sl U []), .r 4 [.int .u64 vI0, .int .u64 vI1, .int .u64 vI2, .int .u64 vI3], .r 4 [.int .u64 rI0, .int .u64 rI1, .int .u64 rI2, .int .u64 rI3], .r 4 [.int .u64 (ar.ib .xor .u64 sI0 1), .int .u64 sI1, .int .u64 sI2, .int .u64 sI3]]] := by
    rw [hy, ← e]
    exact hk _ { ho0 with s := v4_lt hnl hs1 hs2 hs3 } { hf0 with } (fun e => v4_ne0 hyne (congrArg Tx.s e))
  exact hk2
end Go.Eng
namespace Go.Eng
open Go Go.Proofs
set_option maxRecDepth 100000
set_option maxHeartbeats 8000000
set_option linter.unusedVariables false

theorem lentF_fit {t : Tx} (h : t.fit) : t.lent.fit := ⟨h.d, by
  have e : esIts t.lent.ac = esIts t.ac := by
    show esIts (t.ac.map Ent.lent) = _
    unfold esIts; rw [List.map_map]; rfl
  rw [e]; exact h.ac, h.bl, h.au⟩
theorem lentF_enc (t : Tx) : encR t.lent = encR t := encR_same (lent_core t)

structure UQ where
  (ty ch no ga : Int)
  (pr ti ca to va bc v r s : List Value)
  cr : Bool
  (D sd A sa B sb U su : List (List PS))
def UQ.row (u : UQ) : List PS := [.c (.v (.int .i64 u.ty)), .c (.v (.int .u64 u.ch)), .c (.v (.int .u64 u.no)), .r 4 u.pr, .r 4 u.ti, .r 4 u.ca, .c (.v (.int .u64 u.ga)), .c (.v (.bool u.cr)), .r 20 u.to, .r 4 u.va, .c (.sl u.D u.sd), .c (.sl u.A u.sa), .r 4 u.bc, .c (.sl u.B u.sb), .c (.sl u.U u.su), .r 4 u.v, .r 4 u.r, .r 4 u.s]
theorem txFields_sound : Sound Tryd.prog 4 fun args k => ∃ (t : Tx) (a : Int), args = [.a t.row, .s (.v (.int .i64 a))] ∧ t.ok ∧ t.half ∧ k [.s (.v (.bool true))] := by
  refine Sound.of_body tt_ok ent_ok Tryd.func4 rfl ?_
  rintro ar har Γ hΓ args k ⟨t, a, hargs, hto, hth, hk⟩
  have hft := hth.fit
  have throw : ∃ (tty tch tno tga : Int) (tpr tti tca tto tva tbc tv tr ts : List Value) (tcr : Bool) (tD tsd tA tsa tB tsb tU tsu : List (List PS)), t.row = [.c (.v (.int .i64 tty)), .c (.v (.int .u64 tch)), .c (.v (.int .u64 tno)), .r 4 tpr, .r 4 tti, .r 4 tca, .c (.v (.int .u64 tga)), .c (.v (.bool tcr)), .r 20 tto, .r 4 tva, .c (.sl tD tsd), .c (.sl tA tsa), .r 4 tbc, .c (.sl tB tsb), .c (.sl tU tsu), .r 4 tv, .r 4 tr, .r 4 ts] ∧ tno = (t.no : Int) := ⟨_, _, _, _, _, _, _, _, _, _, _, _, _, _, _, _, _, _, _, _, _, _, rfl, rfl⟩
  obtain ⟨tty, tch, tno, tga, tpr, tti, tca, tto, tva, tbc, tv, tr, ts, tcr, tD, tsd, tA, tsa, tB, tsb, tU, tsu, trow, thno⟩ := throw
  have lhrow : ∃ (lty lch lno lga : Int) (lpr lti lca lto lva lbc lv lr ls : List Value) (lcr : Bool) (lD lsd lA lsa lB lsb lU lsu : List (List PS)), t.lent.row = [.c (.v (.int .i64 lty)), .c (.v (.int .u64 lch)), .c (.v (.int .u64 lno)), .r 4 lpr, .r 4 lti, .r 4 lca, .c (.v (.int .u64 lga)), .c (.v (.bool lcr)), .r 20 lto, .r 4 lva, .c (.sl lD lsd), .c (.sl lA lsa), .r 4 lbc, .c (.sl lB lsb), .c (.sl lU lsu), .r 4 lv, .r 4 lr, .r 4 ls] := ⟨_, _, _, _, _, _, _, _, _, _, _, _, _, _, _, _, _, _, _, _, _, _, rfl⟩
  obtain ⟨lty, lch, lno, lga, lpr, lti, lca, lto, lva, lbc, lv, lr, ls, lcr, lD, lsd, lA, lsa, lB, lsb, lU, lsu, lrow⟩ := lhrow
  have hlo := lent_ok hto
  have hlf := lentF_fit hft
  obtain ⟨e, hee⟩ : ∃ e, e = (encR t).2 := ⟨_, rfl⟩
  obtain ⟨T, hT⟩ : ∃ T, T = (encR t).1 := ⟨_, rfl⟩
  obtain ⟨D, hD⟩ : ∃ D, D = T.map b8 := ⟨_, rfl⟩
  have hen : encR t = (T, e) := by rw [hT, hee]
  have callV : ∀ (Γ : Ctx) (d' : Nat) (k : List PR → Prop) (R : Prop), Γ = ctx Tryd.prog d' → k [.s (.v (.bool true))] → Γ.g 7 [.s (.v (.int .u64 tno))] k ∨ R := fun Γ d' k R hΓ hk => call_by hΓ lives15_sound ⟨t.no, by rw [thno], hto.no, hk⟩
  have callW : ∀ (Γ : Ctx) (d' : Nat) (k : List PR → Prop) (R : Prop), Γ = ctx Tryd.prog d' → k [.a [.c (.v (.int .i64 lty)), .c (.v (.int .u64 lch)), .c (.v (.int .u64 lno)), .r 4 lpr, .r 4 lti, .r 4 lca, .c (.v (.int .u64 lga)), .c (.v (.bool lcr)), .r 20 lto, .r 4 lva, .c (.sl lD lsd), .c (.sl lA lsa), .r 4 lbc, .c (.sl lB lsb), .c (.sl lU lsu), .r 4 lv, .r 4 lr, .r 4 ls]] → Γ.g 9 [.a [.c (.v (.int .i64 tty)), .c (.v (.int .u64 tch)), .c (.v (.int .u64 tno)), .r 4 tpr, .r 4 tti, .r 4 tca, .c (.v (.int .u64 tga)), .c (.v (.bool tcr)), .r 20 tto, .r 4 tva, .c (.sl tD tsd), .c (.sl tA tsa), .r 4 tbc, .c (.sl tB tsb), .c (.sl tU tsu), .r 4 tv, .r 4 tr, .r 4 ts]] k ∨ R := fun Γ d' k R hΓ hk => call_by hΓ twin15_sound ⟨t, by rw [trow], hft.small, by rw [lrow]; exact hk⟩
  have callW2 : ∀ (Γ : Ctx) (d' : Nat) (k : List PR → Prop), Γ = ctx Tryd.prog d' → k [.a [.c (.v (.int .i64 lty)), .c (.v (.int .u64 lch)), .c (.v (.int .u64 lno)), .r 4 lpr, .r 4 lti, .r 4 lca, .c (.v (.int .u64 lga)), .c (.v (.bool lcr)), .r 20 lto, .r 4 lva, .c (.sl lD lsd), .c (.sl lA lsa), .r 4 lbc, .c (.sl lB lsb), .c (.sl lU lsu), .r 4 lv, .r 4 lr, .r 4 ls]] → Γ.g 9 [.a [.c (.v (.int .i64 tty)), .c (.v (.int .u64 tch)), .c (.v (.int .u64 tno)), .r 4 tpr, .r 4 tti, .r 4 tca, .c (.v (.int .u64 tga)), .c (.v (.bool tcr)), .r 20 tto, .r 4 tva, .c (.sl tD tsd), .c (.sl tA tsa), .r 4 tbc, .c (.sl tB tsb), .c (.sl tU tsu), .r 4 tv, .r 4 tr, .r 4 ts]] k := fun Γ d' k hΓ hk => call_by' hΓ twin15_sound ⟨t, by rw [trow], hft.small, by rw [lrow]; exact hk⟩
  have callE : ∀ (Γ : Ctx) (d' : Nat) (k : List PR → Prop) (R : Prop), Γ = ctx Tryd.prog d' → k [.s (.sl D []), .s (.v (.int .i64 e))] → Γ.g 8 [.a [.c (.v (.int .i64 lty)), .c (.v (.int .u64 lch)), .c (.v (.int .u64 lno)), .r 4 lpr, .r 4 lti, .r 4 lca, .c (.v (.int .u64 lga)), .c (.v (.bool lcr)), .r 20 lto, .r 4 lva, .c (.sl lD lsd), .c (.sl lA lsa), .r 4 lbc, .c (.sl lB lsb), .c (.sl lU lsu), .r 4 lv, .r 4 lr, .r 4 ls]] k ∨ R := fun Γ d' k R hΓ hk => call_by hΓ encode15_sound ⟨t.lent, by rw [lrow], hlo, hlf, by rw [lentF_enc, hen, hD] at *; exact hk⟩
  have callH : ∀ (Γ : Ctx) (d' : Nat) (k : List PR → Prop), Γ = ctx Tryd.prog d' → (∀ M : Int, k [.s (.v (.int .i64 M))]) → Γ.g 10 [.s (.v (.int .i64 a)), .s (.v (.int .i64 18))] k := fun Γ d' k hΓ hk => call_by' hΓ which15_sound ⟨a, 18, rfl, by omega, by omega, fun m hm => hk _⟩
  have callG : ∀ (M : Int) (Γ : Ctx) (d' : Nat) (k : List PR → Prop), Γ = ctx Tryd.prog d' → (∀ (uty uch uno uga : Int) (upr uti uca uto uva ubc uv ur us : List Value) (ucr : Bool) (uD usd uA usa uB usb uU usu : List (List PS)) (u : Tx), u.row = [.c (.v (.int .i64 uty)), .c (.v (.int .u64 uch)), .c (.v (.int .u64 uno)), .r 4 upr, .r 4 uti, .r 4 uca, .c (.v (.int .u64 uga)), .c (.v (.bool ucr)), .r 20 uto, .r 4 uva, .c (.sl uD usd), .c (.sl uA usa), .r 4 ubc, .c (.sl uB usb), .c (.sl uU usu), .r 4 uv, .r 4 ur, .r 4 us] → u.ok → u.fit → u.core ≠ t.core → k [.a [.c (.v (.int .i64 uty)), .c (.v (.int .u64 uch)), .c (.v (.int .u64 uno)), .r 4 upr, .r 4 uti, .r 4 uca, .c (.v (.int .u64 uga)), .c (.v (.bool ucr)), .r 20 uto, .r 4 uva, .c (.sl uD usd), .c (.sl uA usa), .r 4 ubc, .c (.sl uB usb), .c (.sl uU usu), .r 4 uv, .r 4 ur, .r 4 us]]) → Γ.g 14 [.a [.c (.v (.int .i64 tty)), .c (.v (.int .u64 tch)), .c (.v (.int .u64 tno)), .r 4 tpr, .r 4 tti, .r 4 tca, .c (.v (.int .u64 tga)), .c (.v (.bool tcr)), .r 20 tto, .r 4 tva, .c (.sl tD tsd), .c (.sl tA tsa), .r 4 tbc, .c (.sl tB tsb), .c (.sl tU tsu), .r 4 tv, .r 4 tr, .r 4 ts], .s (.v (.int .i64 M))] k := fun M Γ d' k hΓ hk => call_by' hΓ changed15_sound ⟨t, M, by rw [trow], hto, hth, fun u h1 h2 h3 => hk _ _ _ _ _ _ _ _ _ _ _ _ _ _ _ _ _ _ _ _ _ _ u rfl h1 h2 h3⟩
  have n1 : ar.nb true = false := by rw [har]; rfl
  have n2 : ar.nb false = true := by rw [har]; rfl
  have n00 : ar.cb .neq 0 0 = false := dNne har rfl
  have callS3 : ∀ (Γ : Ctx) (d' : Nat) (k : List PR → Prop), Γ = ctx Tryd.prog d' → k [.s (.v (.bool true))] → Γ.g 13 [.a [.c (.v (.int .i64 tty)), .c (.v (.int .u64 tch)), .c (.v (.int .u64 tno)), .r 4 tpr, .r 4 tti, .r 4 tca, .c (.v (.int .u64 tga)), .c (.v (.bool tcr)), .r 20 tto, .r 4 tva, .c (.sl tD tsd), .c (.sl tA tsa), .r 4 tbc, .c (.sl tB tsb), .c (.sl tU tsu), .r 4 tv, .r 4 tr, .r 4 ts], .a [.c (.v (.int .i64 lty)), .c (.v (.int .u64 lch)), .c (.v (.int .u64 lno)), .r 4 lpr, .r 4 lti, .r 4 lca, .c (.v (.int .u64 lga)), .c (.v (.bool lcr)), .r 20 lto, .r 4 lva, .c (.sl lD lsd), .c (.sl lA lsa), .r 4 lbc, .c (.sl lB lsb), .c (.sl lU lsu), .r 4 lv, .r 4 lr, .r 4 ls]] k := fun Γ d' k hΓ hk => call_by' hΓ txSame_sound ⟨t, t.lent, true, by rw [trow, lrow], hto, hlo, hft.small, by simp [lent_core], hk⟩
  rw [trow] at hargs
  subst hargs
  conv => cbv
  refine callV _ _ _ _ hΓ ?_
  conv => cbv
  refine onF n1 ?_
  conv => cbv
  refine ⟨{ q : UQ // ∃ u : Tx, u.row = q.row ∧ u.ok ∧ u.fit ∧ u.core ≠ t.core }, fun q => ⟨mk 63 [(2, .s (.ptr 0 0)), (5, .s (.ptr 1 0))], [.box [.c (.p (.v (.int .i64 tty))), .c (.p (.v (.int .u64 tch))), .c (.p (.v (.int .u64 tno))), .r 4 tpr, .r 4 tti, .r 4 tca, .c (.p (.v (.int .u64 tga))), .c (.p (.v (.bool tcr))), .r 20 tto, .r 4 tva, .c (.p (.sl tD tsd)), .c (.p (.sl tA tsa)), .r 4 tbc, .c (.p (.sl tB tsb)), .c (.p (.sl tU tsu)), .r 4 tv, .r 4 tr, .r 4 ts], .box [.c (.p (.v (.int .i64 q.1.ty))), .c (.p (.v (.int .u64 q.1.ch))), .c (.p (.v (.int .u64 q.1.no))), .r 4 q.1.pr, .r 4 q.1.ti, .r 4 q.1.ca, .c (.p (.v (.int .u64 q.1.ga))), .c (.p (.v (.bool q.1.cr))), .r 20 q.1.to, .r 4 q.1.va, .c (.p (.sl q.1.D q.1.sd)), .c (.p (.sl q.1.A q.1.sa)), .r 4 q.1.bc, .c (.p (.sl q.1.B q.1.sb)), .c (.p (.sl q.1.U q.1.su)), .r 4 q.1.v, .r 4 q.1.r, .r 4 q.1.s]]⟩, ?_, ?_⟩
  · conv => cbv
    repeat' first
      | (refine callH _ _ _ hΓ fun M => ?_; conv => cbv)
      | (refine callG M _ _ _ hΓ ?_; intro uty uch uno uga upr uti uca uto uva ubc uv ur us ucr uD usd uA usa uB usb uU usu u urow huo huf hne; conv => cbv)
      | refine And.intro ?_ ?_
    all_goals
      refine ⟨⟨⟨uty, uch, uno, uga, upr, uti, uca, uto, uva, ubc, uv, ur, us, ucr, uD, usd, uA, usa, uB, usb, uU, usu⟩, u, urow, huo, huf, hne⟩, ?_⟩
      conv => cbv
      simp
  rintro ⟨⟨uty, uch, uno, uga, upr, uti, uca, uto, uva, ubc, uv, ur, us, ucr, uD, usd, uA, usa, uB, usb, uU, usu⟩, u, urow, huo, huf, hne⟩
  have urow : u.row = [.c (.v (.int .i64 uty)), .c (.v (.int .u64 uch)), .c (.v (.int .u64 uno)), .r 4 upr, .r 4 uti, .r 4 uca, .c (.v (.int .u64 uga)), .c (.v (.bool ucr)), .r 20 uto, .r 4 uva, .c (.sl uD usd), .c (.sl uA usa), .r 4 ubc, .c (.sl uB usb), .c (.sl uU usu), .r 4 uv, .r 4 ur, .r 4 us] := urow
  dsimp only
  have qhrow : ∃ (qty qch qno qga : Int) (qpr qti qca qto qva qbc qv qr qs : List Value) (qcr : Bool) (qD qsd qA qsa qB qsb qU qsu : List (List PS)), u.lent.row = [.c (.v (.int .i64 qty)), .c (.v (.int .u64 qch)), .c (.v (.int .u64 qno)), .r 4 qpr, .r 4 qti, .r 4 qca, .c (.v (.int .u64 qga)), .c (.v (.bool qcr)), .r 20 qto, .r 4 qva, .c (.sl qD qsd), .c (.sl qA qsa), .r 4 qbc, .c (.sl qB qsb), .c (.sl qU qsu), .r 4 qv, .r 4 qr, .r 4 qs] := ⟨_, _, _, _, _, _, _, _, _, _, _, _, _, _, _, _, _, _, _, _, _, _, rfl⟩
  obtain ⟨qty, qch, qno, qga, qpr, qti, qca, qto, qva, qbc, qv, qr, qs, qcr, qD, qsd, qA, qsa, qB, qsb, qU, qsu, qrow⟩ := qhrow
  have hql := lent_ok huo
  have hqf := lentF_fit huf
  obtain ⟨e2, hee2⟩ : ∃ e, e = (encR u).2 := ⟨_, rfl⟩
  obtain ⟨T2, hT2⟩ : ∃ T, T = (encR u).1 := ⟨_, rfl⟩
  obtain ⟨D2, hD2⟩ : ∃ D, D = T2.map b8 := ⟨_, rfl⟩
  have hen2 : encR u = (T2, e2) := by rw [hT2, hee2]
  have callS1 : ∀ (Γ : Ctx) (d' : Nat) (k : List PR → Prop), Γ = ctx Tryd.prog d' → k [.s (.v (.bool false))] → Γ.g 13 [.a [.c (.v (.int .i64 tty)), .c (.v (.int .u64 tch)), .c (.v (.int .u64 tno)), .r 4 tpr, .r 4 tti, .r 4 tca, .c (.v (.int .u64 tga)), .c (.v (.bool tcr)), .r 20 tto, .r 4 tva, .c (.sl tD tsd), .c (.sl tA tsa), .r 4 tbc, .c (.sl tB tsb), .c (.sl tU tsu), .r 4 tv, .r 4 tr, .r 4 ts], .a [.c (.v (.int .i64 uty)), .c (.v (.int .u64 uch)), .c (.v (.int .u64 uno)), .r 4 upr, .r 4 uti, .r 4 uca, .c (.v (.int .u64 uga)), .c (.v (.bool ucr)), .r 20 uto, .r 4 uva, .c (.sl uD usd), .c (.sl uA usa), .r 4 ubc, .c (.sl uB usb), .c (.sl uU usu), .r 4 uv, .r 4 ur, .r 4 us]] k := fun Γ d' k hΓ hk => call_by' hΓ txSame_sound ⟨t, u, false, by rw [trow, urow], hto, huo, hft.small, by simp [Ne.symm hne], hk⟩
  have callS2 : ∀ (Γ : Ctx) (d' : Nat) (k : List PR → Prop), Γ = ctx Tryd.prog d' → k [.s (.v (.bool false))] → Γ.g 13 [.a [.c (.v (.int .i64 uty)), .c (.v (.int .u64 uch)), .c (.v (.int .u64 uno)), .r 4 upr, .r 4 uti, .r 4 uca, .c (.v (.int .u64 uga)), .c (.v (.bool ucr)), .r 20 uto, .r 4 uva, .c (.sl uD usd), .c (.sl uA usa), .r 4 ubc, .c (.sl uB usb), .c (.sl uU usu), .r 4 uv, .r 4 ur, .r 4 us], .a [.c (.v (.int .i64 tty)), .c (.v (.int .u64 tch)), .c (.v (.int .u64 tno)), .r 4 tpr, .r 4 tti, .r 4 tca, .c (.v (.int .u64 tga)), .c (.v (.bool tcr)), .r 20 tto, .r 4 tva, .c (.sl tD tsd), .c (.sl tA tsa), .r 4 tbc, .c (.sl tB tsb), .c (.sl tU tsu), .r 4 tv, .r 4 tr, .r 4 ts]] k := fun Γ d' k hΓ hk => call_by' hΓ txSame_sound ⟨u, t, false, by rw [trow, urow], huo, hto, huf.small, by simp [hne], hk⟩
  have callS4 : ∀ (Γ : Ctx) (d' : Nat) (k : List PR → Prop), Γ = ctx Tryd.prog d' → k [.s (.v (.bool true))] → Γ.g 13 [.a [.c (.v (.int .i64 qty)), .c (.v (.int .u64 qch)), .c (.v (.int .u64 qno)), .r 4 qpr, .r 4 qti, .r 4 qca, .c (.v (.int .u64 qga)), .c (.v (.bool qcr)), .r 20 qto, .r 4 qva, .c (.sl qD qsd), .c (.sl qA qsa), .r 4 qbc, .c (.sl qB qsb), .c (.sl qU qsu), .r 4 qv, .r 4 qr, .r 4 qs], .a [.c (.v (.int .i64 uty)), .c (.v (.int .u64 uch)), .c (.v (.int .u64 uno)), .r 4 upr, .r 4 uti, .r 4 uca, .c (.v (.int .u64 uga)), .c (.v (.bool ucr)), .r 20 uto, .r 4 uva, .c (.sl uD usd), .c (.sl uA usa), .r 4 ubc, .c (.sl uB usb), .c (.sl uU usu), .r 4 uv, .r 4 ur, .r 4 us]] k := fun Γ d' k hΓ hk => call_by' hΓ txSame_sound ⟨u.lent, u, true, by rw [qrow, urow], hql, huo, hqf.small, by simp [lent_core], hk⟩
  have callWu : ∀ (Γ : Ctx) (d' : Nat) (k : List PR → Prop), Γ = ctx Tryd.prog d' → k [.a [.c (.v (.int .i64 qty)), .c (.v (.int .u64 qch)), .c (.v (.int .u64 qno)), .r 4 qpr, .r 4 qti, .r 4 qca, .c (.v (.int .u64 qga)), .c (.v (.bool qcr)), .r 20 qto, .r 4 qva, .c (.sl qD qsd), .c (.sl qA qsa), .r 4 qbc, .c (.sl qB qsb), .c (.sl qU qsu), .r 4 qv, .r 4 qr, .r 4 qs]] → Γ.g 9 [.a [.c (.v (.int .i64 uty)), .c (.v (.int .u64 uch)), .c (.v (.int .u64 uno)), .r 4 upr, .r 4 uti, .r 4 uca, .c (.v (.int .u64 uga)), .c (.v (.bool ucr)), .r 20 uto, .r 4 uva, .c (.sl uD usd), .c (.sl uA usa), .r 4 ubc, .c (.sl uB usb), .c (.sl uU usu), .r 4 uv, .r 4 ur, .r 4 us]] k := fun Γ d' k hΓ hk => call_by' hΓ twin15_sound ⟨u, by rw [urow], huf.small, by rw [qrow]; exact hk⟩
  have callEu : ∀ (Γ : Ctx) (d' : Nat) (k : List PR → Prop) (R : Prop), Γ = ctx Tryd.prog d' → k [.s (.sl D2 []), .s (.v (.int .i64 e2))] → Γ.g 8 [.a [.c (.v (.int .i64 uty)), .c (.v (.int .u64 uch)), .c (.v (.int .u64 uno)), .r 4 upr, .r 4 uti, .r 4 uca, .c (.v (.int .u64 uga)), .c (.v (.bool ucr)), .r 20 uto, .r 4 uva, .c (.sl uD usd), .c (.sl uA usa), .r 4 ubc, .c (.sl uB usb), .c (.sl uU usu), .r 4 uv, .r 4 ur, .r 4 us]] k ∨ R := fun Γ d' k R hΓ hk => call_by hΓ encode15_sound ⟨u, by rw [urow], huo, huf, by rw [hen2, hD2] at *; exact hk⟩
  conv => cbv
  refine ⟨by rw [har]; kernel_rfl, ?_⟩
  refine callS1 _ _ _ hΓ ?_
  conv => cbv
  refine gonT rfl ?_
  conv => cbv
  refine callS2 _ _ _ hΓ ?_
  conv => cbv
  refine gonT rfl ?_
  conv => cbv
  refine callW2 _ _ _ hΓ ?_
  conv => cbv
  refine callS3 _ _ _ hΓ ?_
  conv => cbv
  refine gonT n1 ?_
  conv => cbv
  refine callWu _ _ _ hΓ ?_
  conv => cbv
  refine callS4 _ _ _ hΓ ?_
  conv => cbv
  refine onF n1 ?_
  conv => cbv
  refine callW _ _ _ _ hΓ ?_
  conv => cbv
  refine callE _ _ _ _ hΓ ?_
  conv => cbv
  refine callEu _ _ _ _ hΓ ?_
  conv => cbv
  refine ⟨fun h => ?_, fun h => ?_⟩
  · have h0 := cNne har (a := e) (b := 0) h
    conv => cbv
    refine ⟨fun h => ?_, fun h => ?_⟩
    · have h02 := cNne har (a := e2) (b := 0) h
      have hTT : T ≠ T2 := fun e3 => hne (enc_apart huo huf hto hft (p := T2) (by rw [hen2, h02]) (by rw [hen, h0, e3]))
      have callM : ∀ (Γ : Ctx) (d' : Nat) (k : List PR → Prop) (R : Prop), Γ = ctx Tryd.prog d' → k [.s (.v (.bool false))] → Γ.g 15 [.s (.sl D []), .s (.sl D2 [])] k ∨ R := fun Γ d' k R hΓ hk => call_by hΓ same15_sound ⟨T, T2, [], [], false, by rw [hD, hD2]; rfl, by have := (enc_short (t := t) (by rw [hen, h0])).1; rw [hen] at this; exact Nat.le_trans this (by decide), fun _ _ => trivial, fun _ _ => trivial, by simp [hTT], hk⟩
      have hkn : k [.s (.v (.bool (ar.nb false)))] := by rw [n2]; exact hk
      conv => cbv
      refine callM _ _ _ _ hΓ ?_
      conv => cbv
      exact hkn
    · conv => cbv
      exact hk
  · conv => cbv
    exact hk
end Go.Eng
