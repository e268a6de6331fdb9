/-
  waybillplay.LentTx, waybilllaw15.twin: a transaction in new memory, marks behind every list. Condition: at most 2^36 elements in each list.
-/
import Derived.Test.YtejelaaocjfjbaaDoorE7
namespace Go.Eng
open Go Go.Proofs
set_option maxRecDepth 100000
set_option maxHeartbeats 4000000
set_option linter.unusedVariables false

def a5s : List (List PS) := List.replicate 70 a5
def mkAu : Au := ⟨0, List.replicate 20 0, 165, 0, 0, 0⟩
def mkE : Ent := ⟨mkA, [], []⟩
/-- An entry that is lent. -/
def Ent.lent (e : Ent) : Ent := ⟨e.a, e.ks, [key mkH, key mkH]⟩
def Tx.lent (t : Tx) : Tx := { t with sd := a5s, ac := t.ac.map Ent.lent, sac := [mkE.row, mkE.row], sbl := [key mkH, key mkH], sau := [mkAu.row, mkAu.row] }

theorem playLentTx_sound : Sound Tryd.prog 26 fun args k => ∃ t : Tx, args = [.a t.row] ∧ t.small ∧ k [.a t.lent.row] := by
  refine Sound.of_body tt_ok ent_ok Tryd.func26 rfl ?_
  rintro ar har Γ hΓ args k ⟨⟨tty, tch, tno, tpr, tti, tca, tga, tcr, tto, tva, td, tsd, tac, tsac, tbc, tbl, tsbl, tau, tsau, tv, tr, ts⟩, hargs, hs, hk⟩
  obtain ⟨tWpr, thWpr⟩ : ∃ x, x = w4 tpr := ⟨_, rfl⟩
  obtain ⟨tWti, thWti⟩ : ∃ x, x = w4 tti := ⟨_, rfl⟩
  obtain ⟨tWca, thWca⟩ : ∃ x, x = w4 tca := ⟨_, rfl⟩
  obtain ⟨tWva, thWva⟩ : ∃ x, x = w4 tva := ⟨_, rfl⟩
  obtain ⟨tWbc, thWbc⟩ : ∃ x, x = w4 tbc := ⟨_, rfl⟩
  obtain ⟨tWv, thWv⟩ : ∃ x, x = w4 tv := ⟨_, rfl⟩
  obtain ⟨tWr, thWr⟩ : ∃ x, x = w4 tr := ⟨_, rfl⟩
  obtain ⟨tWs, thWs⟩ : ∃ x, x = w4 ts := ⟨_, rfl⟩
  obtain ⟨tWto, thWto⟩ : ∃ x, x = u8s tto := ⟨_, rfl⟩
  obtain ⟨tD, thD⟩ : ∃ x, x = td.map b8' := ⟨_, rfl⟩
  obtain ⟨tA, thA⟩ : ∃ x, x = tac.map Ent.row := ⟨_, rfl⟩
  obtain ⟨tB, thB⟩ : ∃ x, x = tbl.map key := ⟨_, rfl⟩
  obtain ⟨tU, thU⟩ : ∃ x, x = tau.map Au.row := ⟨_, rfl⟩
  obtain ⟨tIch, thIch⟩ : ∃ x : Int, x = (tch : Int) := ⟨_, rfl⟩
  obtain ⟨tIno, thIno⟩ : ∃ x : Int, x = (tno : Int) := ⟨_, rfl⟩
  obtain ⟨tIga, thIga⟩ : ∃ x : Int, x = (tga : Int) := ⟨_, rfl⟩
  have trow : Tx.row ⟨tty, tch, tno, tpr, tti, tca, tga, tcr, tto, tva, td, tsd, tac, tsac, tbc, tbl, tsbl, tau, tsau, tv, tr, ts⟩ = [.c (.v (.int .i64 tty)), .c (.v (.int .u64 tIch)), .c (.v (.int .u64 tIno)), .r 4 tWpr, .r 4 tWti, .r 4 tWca, .c (.v (.int .u64 tIga)), .c (.v (.bool tcr)), .r 20 tWto, .r 4 tWva, .c (.sl tD tsd), .c (.sl tA tsac), .r 4 tWbc, .c (.sl tB tsbl), .c (.sl tU tsau), .r 4 tWv, .r 4 tWr, .r 4 tWs] := by rw [thWpr, thWti, thWca, thWva, thWbc, thWv, thWr, thWs, thWto, thD, thA, thB, thU, thIch, thIno, thIga]; rfl
  rw [trow] at hargs
  obtain ⟨R, hR⟩ : ∃ R, R = a5s := ⟨_, rfl⟩
  obtain ⟨M, hM⟩ : ∃ M, M = [key mkH, key mkH] := ⟨_, rfl⟩
  have hAl : ar.len tA = (tac.length : Int) := by rw [lenIs har, thA, List.length_map]
  have hUl : ar.len tU = (tau.length : Int) := by rw [lenIs har, thU, List.length_map]
  have hUn : tU.length = tau.length := by rw [thU, List.length_map]
  have hU1 : ∀ y ∈ tU, rlen y = 34 := by
    rw [thU]; intro y hy; rw [List.mem_map] at hy; obtain ⟨x, _, rfl⟩ := hy; rfl
  have sd := hs.d
  have sac := hs.ac
  have sks := hs.ks
  have sbl := hs.bl
  have sau := hs.au
  simp only at sd sac sks sbl sau
  have callL : ∀ (Γ : Ctx) (d' : Nat) (k : List PR → Prop) (Q : Prop), Γ = ctx Tryd.prog d' → k [.s (.sl tD R)] → Γ.g 54 [.s (.sl tD tsd)] k ∨ Q := fun Γ d' k Q hΓ hk => call_by hΓ playLent_sound ⟨td, tsd, by rw [thD], by omega, by rw [hR, a5s, thD] at hk; exact hk⟩
  have callH : ∀ (Γ : Ctx) (d' : Nat) (k : List PR → Prop) (Q : Prop), Γ = ctx Tryd.prog d' → k [.s (.sl tB M)] → Γ.g 55 [.s (.sl tB tsbl)] k ∨ Q := fun Γ d' k Q hΓ hk => call_by hΓ playLentHashes_sound ⟨tbl, tsbl, by rw [thB], by omega, by rw [hM, thB] at hk; exact hk⟩
  obtain ⟨mau, hmau⟩ : ∃ m, m = mkAu.row := ⟨_, rfl⟩
  have hap : ar.app [] tU = tU := by rw [appIs har]; rfl
  have s1 : (0 + tU.length) * 136 ≤ 140737488355328 := by omega
  have s2 : ((ar.app [] tU).length + [mkAu.row, mkAu.row].length) * 136 ≤ 140737488355328 := by rw [hap]; simp; omega
  have s3 : ∀ y ∈ [mkAu.row, mkAu.row], rlen y = 34 := by intro y hy; simp at hy; rw [hy]; rfl
  have s4 : 0 ≤ ar.len tU ∧ ar.len tU ≤ (((ar.app (ar.app [] tU) [mkAu.row, mkAu.row]).length + 0 : Nat) : Int) := by rw [appIs har, appIs har, hUl]; simp; omega
  subst hargs
  conv => cbv
  refine callL _ _ _ _ hΓ ?_
  conv => cbv
  refine callH _ _ _ _ hΓ ?_
  conv => cbv
  refine ⟨fun _ => ⟨s1, hU1⟩, fun _ => ⟨s2, s3⟩, fun _ => s4, ?_⟩
  have f1 : ar.mid (ar.app (ar.app [] tU) [mkAu.row, mkAu.row]) 0 (ar.nat (ar.len tU)) = tU := by rw [natOf har hUl, midIs har, appIs har, appIs har, ← hUn]; simp
  have f2 : ar.frm (ar.app (ar.app [] tU) [mkAu.row, mkAu.row]) (ar.nat (ar.len tU)) = [mkAu.row, mkAu.row] := by rw [natOf har hUl, frmIs har, appIs har, appIs har, ← hUn]; simp
  obtain ⟨AL, hAL⟩ : ∃ L, L = (tac.map Ent.lent).map Ent.row := ⟨_, rfl⟩
  have hfin : Tx.row (Tx.lent ⟨tty, tch, tno, tpr, tti, tca, tga, tcr, tto, tva, td, tsd, tac, tsac, tbc, tbl, tsbl, tau, tsau, tv, tr, ts⟩) = [.c (.v (.int .i64 tty)), .c (.v (.int .u64 tIch)), .c (.v (.int .u64 tIno)), .r 4 tWpr, .r 4 tWti, .r 4 tWca, .c (.v (.int .u64 tIga)), .c (.v (.bool tcr)), .r 20 tWto, .r 4 tWva, .c (.sl tD R), .c (.sl AL [mkE.row, mkE.row]), .r 4 tWbc, .c (.sl tB M), .c (.sl tU [mkAu.row, mkAu.row]), .r 4 tWv, .r 4 tWr, .r 4 tWs] := by rw [hAL, hR, hM, thWpr, thWti, thWca, thWva, thWbc, thWv, thWr, thWs, thWto, thD, thB, thU, thIch, thIno, thIga]; rfl
  rw [hfin] at hk
  refine .inr ⟨{ q : Nat × Int × List (List PS) × List (List PS) × List (List PS) // q.1 ≤ tac.length ∧ q.2.1 = q.1 ∧ q.2.2.1 = ((tac.take q.1).map Ent.lent).map Ent.row ∧ q.2.2.2.1 = tU ∧ q.2.2.2.2 = [mkAu.row, mkAu.row] },
    fun q => ⟨mk 69 [(1, .s (.ptr 0 0)), (2, .s (.ptr 1 0)), (3, .s (.ptr 2 0)), (5, .s (.own 5)), (6, pint q.1.2.1)], [.box [.c (.p (.v (.int .i64 tty))), .c (.p (.v (.int .u64 tIch))), .c (.p (.v (.int .u64 tIno))), .r 4 tWpr, .r 4 tWti, .r 4 tWca, .c (.p (.v (.int .u64 tIga))), .c (.p (.v (.bool tcr))), .r 20 tWto, .r 4 tWva, .c (.p (.sl tD tsd)), .c (.p (.sl tA tsac)), .r 4 tWbc, .c (.p (.sl tB tsbl)), .c (.p (.sl tU tsau)), .r 4 tWv, .r 4 tWr, .r 4 tWs], .box [.c (.lit .i64 0), .c (.lit .u64 0), .c (.lit .u64 0), .r 4 (w4 0), .r 4 (w4 0), .r 4 (w4 0), .c (.lit .u64 0), .c (.bl false), .r 20 (u8s (List.replicate 20 0)), .r 4 (w4 0), .c .nil, .c .nil, .r 4 (w4 0), .c .nil, .c .nil, .r 4 (w4 0), .r 4 (w4 0), .r 4 (w4 0)], .box [.c (.p (.v (.int .i64 tty))), .c (.p (.v (.int .u64 tIch))), .c (.p (.v (.int .u64 tIno))), .r 4 tWpr, .r 4 tWti, .r 4 tWca, .c (.p (.v (.int .u64 tIga))), .c (.p (.v (.bool tcr))), .r 20 tWto, .r 4 tWva, .c (.p (.sl tD R)), .c (.p (.sl tA tsac)), .r 4 tWbc, .c (.p (.sl tB M)), .c (.p (.sl q.1.2.2.2.1 q.1.2.2.2.2)), .r 4 tWv, .r 4 tWr, .r 4 tWs], .gone, .gone, .arr q.1.2.2.1 54 21 48 true]⟩,
    fun q => tac.length - q.1.1, [.slot 5 54], _, ⟨(0, 0, [], ar.mid (ar.app (ar.app [] tU) [mkAu.row, mkAu.row]) 0 (ar.nat (ar.len tU)), ar.frm (ar.app (ar.app [] tU) [mkAu.row, mkAu.row]) (ar.nat (ar.len tU))), Nat.zero_le _, rfl, rfl, f1, f2⟩, rfl, ?_, ?_⟩
  · conv => cbv
    simp
  · rintro ⟨⟨p, pi, L, P1, Q1⟩, hq⟩
    have hp : p ≤ tac.length := hq.1
    have hpi : pi = (p : Int) := hq.2.1
    have hL : L = ((tac.take p).map Ent.lent).map Ent.row := hq.2.2.1
    have hP1 : P1 = tU := hq.2.2.2.1
    have hQ1 : Q1 = [mkAu.row, mkAu.row] := hq.2.2.2.2
    have hLl : L.length = p := by rw [hL]; simp; omega
    dsimp only
    conv => cbv
    refine ⟨fun h => ?_, fun h => ?_⟩
    · have g' := cLt har (b := ar.len tA) h
      have hlt : p < tac.length := by omega
      obtain ⟨x, hx⟩ : ∃ x, tac[p]? = some x := ⟨_, List.getElem?_eq_getElem hlt⟩
      have hxk := sks x (List.mem_of_getElem? hx)
      have hL2 : ((tac.take (p + 1)).map Ent.lent).map Ent.row = L ++ [x.lent.row] := by rw [hL, List.take_add_one, hx]; simp
      obtain ⟨xa, xk, xs1⟩ := x
      obtain ⟨xv, hxv⟩ : ∃ v, v = u8s xa := ⟨_, rfl⟩
      obtain ⟨xl, hxl⟩ : ∃ v, v = xk.map key := ⟨_, rfl⟩
      have hrw : (Ent.mk xa xk xs1).lent.row = [.r 20 xv, .c (.sl xl M)] := by rw [hxv, hxl, hM]; rfl
      rw [hrw] at hL2
      have rx : tA[pi.toNat]? = some [.r 20 xv, .c (.sl xl xs1)] := by rw [thA, hpi]; simp [hx, Ent.row, hxv, hxl]
      have callK : ∀ (Γ : Ctx) (d' : Nat) (k : List PR → Prop), Γ = ctx Tryd.prog d' → k [.s (.sl xl M)] → Γ.g 55 [.s (.sl xl xs1)] k := fun Γ d' k hΓ hk => call_by' hΓ playLentHashes_sound ⟨xk, xs1, by rw [hxl], by simp only at hxk; omega, by rw [hM, hxl] at hk; exact hk⟩
      have t1 : (L.length + 1) * 48 ≤ 140737488355328 ∧ ∀ y ∈ [[PS.r 20 xv, .c (.sl xl M)]], rlen y = 21 := ⟨by omega, by simp [rlen, PS.len]⟩
      conv => cbv
      refine ⟨by rw [har]; kernel_rfl, ?_⟩
      refine ⟨_, by omega, rx, rfl, ?_⟩
      conv => cbv
      refine ⟨_, by omega, rx, rfl, ?_⟩
      conv => cbv
      refine callK _ _ _ hΓ ?_
      conv => cbv
      refine ⟨fun _ => t1, ?_⟩
      refine ⟨⟨(p + 1, ar.ib .add .i64 pi 1, ar.app L [[.r 20 xv, .c (.sl xl M)]], P1, Q1), hlt, iSucc har hpi (by omega), by rw [appIs har, hL2], hP1, hQ1⟩, ?_, ?_⟩
      · dsimp only
        conv => cbv
        simp
      · show tac.length - (p + 1) < tac.length - p
        omega
    · have g' := cNlt har (b := ar.len tA) h
      have hpe : p = tac.length := by omega
      have hLA : L = AL := by rw [hL, hpe, List.take_length, hAL]
      have hLn : L.length = tac.length := by omega
      have u1 : (L.length + [mkE.row, mkE.row].length) * 48 ≤ 140737488355328 := by simp; omega
      have u2 : ∀ y ∈ [mkE.row, mkE.row], rlen y = 21 := by intro y hy; simp at hy; rw [hy]; rfl
      have u3 : 0 ≤ ar.len tA ∧ ar.len tA ≤ (((ar.app L [mkE.row, mkE.row]).length + 0 : Nat) : Int) := by rw [appIs har, hAl]; simp; omega
      have f3 : ar.mid (ar.app L [mkE.row, mkE.row]) 0 (ar.nat (ar.len tA)) = AL := by rw [natOf har hAl, midIs har, appIs har, ← hLA, ← hLn]; simp
      have f4 : ar.frm (ar.app L [mkE.row, mkE.row]) (ar.nat (ar.len tA)) = [mkE.row, mkE.row] := by rw [natOf har hAl, frmIs har, appIs har, ← hLn]; simp
      rw [← f4] at hk
      rw [← f3, ← hP1, ← hQ1] at hk
      conv => cbv
      refine ⟨fun _ => ⟨u1, u2⟩, fun _ => u3, ?_⟩
      exact hk

theorem lent_small {t : Tx} (h : t.small) : t.lent.small := ⟨h.d, by simpa [Tx.lent] using h.ac, fun e he => by
  simp only [Tx.lent, List.mem_map] at he
  obtain ⟨x, hx, rfl⟩ := he
  exact h.ks x hx, h.bl, h.au⟩
theorem lent_ok {t : Tx} (h : t.ok) : t.lent.ok := ⟨h.ty, h.ch, h.no, h.pr, h.ti, h.ca, h.ga, h.to, h.va, fun e he => by
  simp only [Tx.lent, List.mem_map] at he
  obtain ⟨x, hx, rfl⟩ := he
  exact h.ac x hx, h.bc, h.bl, h.au, h.v, h.r, h.s, h.tob, h.db⟩
theorem lent_core (t : Tx) : t.lent.core = t.core := by
  simp only [Tx.lent, Tx.core, List.map_map]
  congr 1

theorem twin15_sound : Sound Tryd.prog 9 fun args k => ∃ t : Tx, args = [.a t.row] ∧ t.small ∧ k [.a t.lent.row] := by
  refine Sound.of_body tt_ok ent_ok Tryd.func9 rfl ?_
  rintro ar har Γ hΓ args k ⟨t, hargs, hs, hk⟩
  obtain ⟨u, hu⟩ : ∃ u, u = t.lent := ⟨_, rfl⟩
  have callL : ∀ (A B : List PS) (Γ : Ctx) (d' : Nat) (k : List PR → Prop) (Q : Prop), Γ = ctx Tryd.prog d' → A = t.row → B = u.row → k [.a B] → Γ.g 26 [.a A] k ∨ Q := fun A B Γ d' k Q hΓ hA hB hk => call_by hΓ playLentTx_sound ⟨t, by rw [hA], hs, by rw [← hu, ← hB]; exact hk⟩
  rw [← hu] at hk
  obtain ⟨tty, tch, tno, tpr, tti, tca, tga, tcr, tto, tva, td, tsd, tac, tsac, tbc, tbl, tsbl, tau, tsau, tv, tr, ts⟩ := t
  obtain ⟨uty, uch, uno, upr, uti, uca, uga, ucr, uto, uva, ud, usd, uac, usac, ubc, ubl, usbl, uau, usau, uv, ur, us⟩ := u
  obtain ⟨tWpr, thWpr⟩ : ∃ x, x = w4 tpr := ⟨_, rfl⟩
  obtain ⟨tWti, thWti⟩ : ∃ x, x = w4 tti := ⟨_, rfl⟩
  obtain ⟨tWca, thWca⟩ : ∃ x, x = w4 tca := ⟨_, rfl⟩
  obtain ⟨tWva, thWva⟩ : ∃ x, x = w4 tva := ⟨_, rfl⟩
  obtain ⟨tWbc, thWbc⟩ : ∃ x, x = w4 tbc := ⟨_, rfl⟩
  obtain ⟨tWv, thWv⟩ : ∃ x, x = w4 tv := ⟨_, rfl⟩
  obtain ⟨tWr, thWr⟩ : ∃ x, x = w4 tr := ⟨_, rfl⟩
  obtain ⟨tWs, thWs⟩ : ∃ x, x = w4 ts := ⟨_, rfl⟩
  obtain ⟨tWto, thWto⟩ : ∃ x, x = u8s tto := ⟨_, rfl⟩
  obtain ⟨tD, thD⟩ : ∃ x, x = td.map b8' := ⟨_, rfl⟩
  obtain ⟨tA, thA⟩ : ∃ x, x = tac.map Ent.row := ⟨_, rfl⟩
  obtain ⟨tB, thB⟩ : ∃ x, x = tbl.map key := ⟨_, rfl⟩
  obtain ⟨tU, thU⟩ : ∃ x, x = tau.map Au.row := ⟨_, rfl⟩
  obtain ⟨tIch, thIch⟩ : ∃ x : Int, x = (tch : Int) := ⟨_, rfl⟩
  obtain ⟨tIno, thIno⟩ : ∃ x : Int, x = (tno : Int) := ⟨_, rfl⟩
  obtain ⟨tIga, thIga⟩ : ∃ x : Int, x = (tga : Int) := ⟨_, rfl⟩
  obtain ⟨uWpr, uhWpr⟩ : ∃ x, x = w4 upr := ⟨_, rfl⟩
  obtain ⟨uWti, uhWti⟩ : ∃ x, x = w4 uti := ⟨_, rfl⟩
  obtain ⟨uWca, uhWca⟩ : ∃ x, x = w4 uca := ⟨_, rfl⟩
  obtain ⟨uWva, uhWva⟩ : ∃ x, x = w4 uva := ⟨_, rfl⟩
  obtain ⟨uWbc, uhWbc⟩ : ∃ x, x = w4 ubc := ⟨_, rfl⟩
  obtain ⟨uWv, uhWv⟩ : ∃ x, x = w4 uv := ⟨_, rfl⟩
  obtain ⟨uWr, uhWr⟩ : ∃ x, x = w4 ur := ⟨_, rfl⟩
  obtain ⟨uWs, uhWs⟩ : ∃ x, x = w4 us := ⟨_, rfl⟩
  obtain ⟨uWto, uhWto⟩ : ∃ x, x = u8s uto := ⟨_, rfl⟩
  obtain ⟨uD, uhD⟩ : ∃ x, x = ud.map b8' := ⟨_, rfl⟩
  obtain ⟨uA, uhA⟩ : ∃ x, x = uac.map Ent.row := ⟨_, rfl⟩
  obtain ⟨uB, uhB⟩ : ∃ x, x = ubl.map key := ⟨_, rfl⟩
  obtain ⟨uU, uhU⟩ : ∃ x, x = uau.map Au.row := ⟨_, rfl⟩
  obtain ⟨uIch, uhIch⟩ : ∃ x : Int, x = (uch : Int) := ⟨_, rfl⟩
  obtain ⟨uIno, uhIno⟩ : ∃ x : Int, x = (uno : Int) := ⟨_, rfl⟩
  obtain ⟨uIga, uhIga⟩ : ∃ x : Int, x = (uga : Int) := ⟨_, rfl⟩
  have trow : Tx.row ⟨tty, tch, tno, tpr, tti, tca, tga, tcr, tto, tva, td, tsd, tac, tsac, tbc, tbl, tsbl, tau, tsau, tv, tr, ts⟩ = [.c (.v (.int .i64 tty)), .c (.v (.int .u64 tIch)), .c (.v (.int .u64 tIno)), .r 4 tWpr, .r 4 tWti, .r 4 tWca, .c (.v (.int .u64 tIga)), .c (.v (.bool tcr)), .r 20 tWto, .r 4 tWva, .c (.sl tD tsd), .c (.sl tA tsac), .r 4 tWbc, .c (.sl tB tsbl), .c (.sl tU tsau), .r 4 tWv, .r 4 tWr, .r 4 tWs] := by rw [thWpr, thWti, thWca, thWva, thWbc, thWv, thWr, thWs, thWto, thD, thA, thB, thU, thIch, thIno, thIga]; rfl
  have urow : Tx.row ⟨uty, uch, uno, upr, uti, uca, uga, ucr, uto, uva, ud, usd, uac, usac, ubc, ubl, usbl, uau, usau, uv, ur, us⟩ = [.c (.v (.int .i64 uty)), .c (.v (.int .u64 uIch)), .c (.v (.int .u64 uIno)), .r 4 uWpr, .r 4 uWti, .r 4 uWca, .c (.v (.int .u64 uIga)), .c (.v (.bool ucr)), .r 20 uWto, .r 4 uWva, .c (.sl uD usd), .c (.sl uA usac), .r 4 uWbc, .c (.sl uB usbl), .c (.sl uU usau), .r 4 uWv, .r 4 uWr, .r 4 uWs] := by rw [uhWpr, uhWti, uhWca, uhWva, uhWbc, uhWv, uhWr, uhWs, uhWto, uhD, uhA, uhB, uhU, uhIch, uhIno, uhIga]; rfl
  rw [trow] at hargs
  rw [urow] at hk
  subst hargs
  conv => cbv
  refine callL _ [.c (.v (.int .i64 uty)), .c (.v (.int .u64 uIch)), .c (.v (.int .u64 uIno)), .r 4 uWpr, .r 4 uWti, .r 4 uWca, .c (.v (.int .u64 uIga)), .c (.v (.bool ucr)), .r 20 uWto, .r 4 uWva, .c (.sl uD usd), .c (.sl uA usac), .r 4 uWbc, .c (.sl uB usbl), .c (.sl uU usau), .r 4 uWv, .r 4 uWr, .r 4 uWs] _ _ _ _ hΓ trow.symm urow.symm ?_
  conv => cbv
  exact hk
end Go.Eng
