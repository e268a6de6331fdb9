/-
  waybilllaw15.untouched, TxSames. Condition: at most 2^36 elements in each list.
-/
import Derived.Test.YtejelaaocjfjbaaDoorE10
import Derived.Test.YtejelaaocjfjbaaDoorE5
namespace Go.Eng
open Go Go.Proofs
set_option maxRecDepth 100000
set_option maxHeartbeats 8000000
set_option linter.unusedVariables false

theorem untouched15_sound : Sound Tryd.prog 12 fun args k => ∃ t : Tx, args = [.a t.lent.row, .a t.row] ∧ t.small ∧ t.ok ∧ k [.s (.v (.bool true))] := by
  refine Sound.of_body tt_ok ent_ok Tryd.func12 rfl ?_
  rintro ar har Γ hΓ args k ⟨⟨tty, tch, tno, tpr, tti, tca, tga, tcr, tto, tva, td, tsd, tac, tsac, tbc, tbl, tsbl, tau, tsau, tv, tr, ts⟩, hargs, hs, ho, hk⟩
  obtain ⟨tWpr, thWpr⟩ : ∃ x, x = w4 tpr := ⟨_, rfl⟩
  obtain ⟨tWti, thWti⟩ : ∃ x, x = w4 tti := ⟨_, rfl⟩
  obtain ⟨tWca, thWca⟩ : ∃ x, x = w4 tca := ⟨_, rfl⟩
  obtain ⟨tWva, thWva⟩ : ∃ x, x = w4 tva := ⟨_, rfl⟩
  obtain ⟨tWbc, thWbc⟩ : ∃ x, x = w4 tbc := ⟨_, rfl⟩
  obtain ⟨tWv, thWv⟩ : ∃ x, x = w4 tv := ⟨_, rfl⟩
  obtain ⟨tWr, thWr⟩ : ∃ x, x = w4 tr := ⟨_, rfl⟩
  obtain ⟨tWs, thWs⟩ : ∃ x, x = w4 ts := ⟨_, rfl⟩
  obtain ⟨tWto, thWto⟩ : ∃ x, x = u8s tto := ⟨_, rfl⟩
  obtain ⟨tD, thD⟩ : ∃ x, x = td.map b8' := ⟨_, rfl⟩
  obtain ⟨tA, thA⟩ : ∃ x, x = tac.map Ent.row := ⟨_, rfl⟩
  obtain ⟨tB, thB⟩ : ∃ x, x = tbl.map key := ⟨_, rfl⟩
  obtain ⟨tU, thU⟩ : ∃ x, x = tau.map Au.row := ⟨_, rfl⟩
  obtain ⟨tIch, thIch⟩ : ∃ x : Int, x = (tch : Int) := ⟨_, rfl⟩
  obtain ⟨tIno, thIno⟩ : ∃ x : Int, x = (tno : Int) := ⟨_, rfl⟩
  obtain ⟨tIga, thIga⟩ : ∃ x : Int, x = (tga : Int) := ⟨_, rfl⟩
  have trow : Tx.row ⟨tty, tch, tno, tpr, tti, tca, tga, tcr, tto, tva, td, tsd, tac, tsac, tbc, tbl, tsbl, tau, tsau, tv, tr, ts⟩ = [.c (.v (.int .i64 tty)), .c (.v (.int .u64 tIch)), .c (.v (.int .u64 tIno)), .r 4 tWpr, .r 4 tWti, .r 4 tWca, .c (.v (.int .u64 tIga)), .c (.v (.bool tcr)), .r 20 tWto, .r 4 tWva, .c (.sl tD tsd), .c (.sl tA tsac), .r 4 tWbc, .c (.sl tB tsbl), .c (.sl tU tsau), .r 4 tWv, .r 4 tWr, .r 4 tWs] := by rw [thWpr, thWti, thWca, thWva, thWbc, thWv, thWr, thWs, thWto, thD, thA, thB, thU, thIch, thIno, thIga]; rfl
  obtain ⟨R, hR⟩ : ∃ R, R = a5s := ⟨_, rfl⟩
  obtain ⟨M, hM⟩ : ∃ M, M = [key mkH, key mkH] := ⟨_, rfl⟩
  obtain ⟨tLA, thLA⟩ : ∃ L, L = (tac.map Ent.lent).map Ent.row := ⟨_, rfl⟩
  have lrow : Tx.row (Tx.lent ⟨tty, tch, tno, tpr, tti, tca, tga, tcr, tto, tva, td, tsd, tac, tsac, tbc, tbl, tsbl, tau, tsau, tv, tr, ts⟩) = [.c (.v (.int .i64 tty)), .c (.v (.int .u64 tIch)), .c (.v (.int .u64 tIno)), .r 4 tWpr, .r 4 tWti, .r 4 tWca, .c (.v (.int .u64 tIga)), .c (.v (.bool tcr)), .r 20 tWto, .r 4 tWva, .c (.sl tD R), .c (.sl tLA [mkE.row, mkE.row]), .r 4 tWbc, .c (.sl tB M), .c (.sl tU [mkAu.row, mkAu.row]), .r 4 tWv, .r 4 tWr, .r 4 tWs] := by rw [thLA, hR, hM, thWpr, thWti, thWca, thWva, thWbc, thWv, thWr, thWs, thWto, thD, thB, thU, thIch, thIno, thIga]; rfl
  rw [trow, lrow] at hargs
  have callS : ∀ (Γ : Ctx) (d' : Nat) (k : List PR → Prop) (Q : Prop), Γ = ctx Tryd.prog d' → k [.s (.v (.bool true))] → Γ.g 11 [.a [.c (.v (.int .i64 tty)), .c (.v (.int .u64 tIch)), .c (.v (.int .u64 tIno)), .r 4 tWpr, .r 4 tWti, .r 4 tWca, .c (.v (.int .u64 tIga)), .c (.v (.bool tcr)), .r 20 tWto, .r 4 tWva, .c (.sl tD R), .c (.sl tLA [mkE.row, mkE.row]), .r 4 tWbc, .c (.sl tB M), .c (.sl tU [mkAu.row, mkAu.row]), .r 4 tWv, .r 4 tWr, .r 4 tWs], .a [.c (.v (.int .i64 tty)), .c (.v (.int .u64 tIch)), .c (.v (.int .u64 tIno)), .r 4 tWpr, .r 4 tWti, .r 4 tWca, .c (.v (.int .u64 tIga)), .c (.v (.bool tcr)), .r 20 tWto, .r 4 tWva, .c (.sl tD tsd), .c (.sl tA tsac), .r 4 tWbc, .c (.sl tB tsbl), .c (.sl tU tsau), .r 4 tWv, .r 4 tWr, .r 4 tWs]] k ∨ Q := fun Γ d' k Q hΓ hk => call_by hΓ refSame_sound ⟨_, _, true, by rw [← lrow, ← trow], lent_ok ho, ho, lent_small hs, by simp [lent_core], hk⟩
  have callT : ∀ (Γ : Ctx) (d' : Nat) (k : List PR → Prop) (Q : Prop), Γ = ctx Tryd.prog d' → k [.s (.v (.bool true))] → Γ.g 34 [.a [.c (.v (.int .i64 tty)), .c (.v (.int .u64 tIch)), .c (.v (.int .u64 tIno)), .r 4 tWpr, .r 4 tWti, .r 4 tWca, .c (.v (.int .u64 tIga)), .c (.v (.bool tcr)), .r 20 tWto, .r 4 tWva, .c (.sl tD R), .c (.sl tLA [mkE.row, mkE.row]), .r 4 tWbc, .c (.sl tB M), .c (.sl tU [mkAu.row, mkAu.row]), .r 4 tWv, .r 4 tWr, .r 4 tWs], .a [.c (.v (.int .i64 tty)), .c (.v (.int .u64 tIch)), .c (.v (.int .u64 tIno)), .r 4 tWpr, .r 4 tWti, .r 4 tWca, .c (.v (.int .u64 tIga)), .c (.v (.bool tcr)), .r 20 tWto, .r 4 tWva, .c (.sl tD tsd), .c (.sl tA tsac), .r 4 tWbc, .c (.sl tB tsbl), .c (.sl tU tsau), .r 4 tWv, .r 4 tWr, .r 4 tWs]] k ∨ Q := fun Γ d' k Q hΓ hk => call_by hΓ playStillTx_sound ⟨_, by rw [← lrow, ← trow], hs, ho, hk⟩
  clear trow lrow
  subst hargs
  conv => cbv
  refine callS _ _ _ _ hΓ ?_
  conv => cbv
  refine onT rfl ?_
  conv => cbv
  refine callT _ _ _ _ hΓ ?_
  conv => cbv
  exact hk

theorem txSames_sound : Sound Tryd.prog 3 fun args k => ∃ t u : Tx, args = [.a t.row, .a u.row] ∧ t.small ∧ t.ok ∧ u.small ∧ u.ok ∧ k [.s (.v (.bool true))] := by
  refine Sound.of_body tt_ok ent_ok Tryd.func3 rfl ?_
  rintro ar har Γ hΓ args k ⟨⟨tty, tch, tno, tpr, tti, tca, tga, tcr, tto, tva, td, tsd, tac, tsac, tbc, tbl, tsbl, tau, tsau, tv, tr, ts⟩, ⟨uty, uch, uno, upr, uti, uca, uga, ucr, uto, uva, ud, usd, uac, usac, ubc, ubl, usbl, uau, usau, uv, ur, us⟩, hargs, hs, ho, hus, uo, hk⟩
  obtain ⟨tWpr, thWpr⟩ : ∃ x, x = w4 tpr := ⟨_, rfl⟩
  obtain ⟨tWti, thWti⟩ : ∃ x, x = w4 tti := ⟨_, rfl⟩
  obtain ⟨tWca, thWca⟩ : ∃ x, x = w4 tca := ⟨_, rfl⟩
  obtain ⟨tWva, thWva⟩ : ∃ x, x = w4 tva := ⟨_, rfl⟩
  obtain ⟨tWbc, thWbc⟩ : ∃ x, x = w4 tbc := ⟨_, rfl⟩
  obtain ⟨tWv, thWv⟩ : ∃ x, x = w4 tv := ⟨_, rfl⟩
  obtain ⟨tWr, thWr⟩ : ∃ x, x = w4 tr := ⟨_, rfl⟩
  obtain ⟨tWs, thWs⟩ : ∃ x, x = w4 ts := ⟨_, rfl⟩
  obtain ⟨tWto, thWto⟩ : ∃ x, x = u8s tto := ⟨_, rfl⟩
  obtain ⟨tD, thD⟩ : ∃ x, x = td.map b8' := ⟨_, rfl⟩
  obtain ⟨tA, thA⟩ : ∃ x, x = tac.map Ent.row := ⟨_, rfl⟩
  obtain ⟨tB, thB⟩ : ∃ x, x = tbl.map key := ⟨_, rfl⟩
  obtain ⟨tU, thU⟩ : ∃ x, x = tau.map Au.row := ⟨_, rfl⟩
  obtain ⟨tIch, thIch⟩ : ∃ x : Int, x = (tch : Int) := ⟨_, rfl⟩
  obtain ⟨tIno, thIno⟩ : ∃ x : Int, x = (tno : Int) := ⟨_, rfl⟩
  obtain ⟨tIga, thIga⟩ : ∃ x : Int, x = (tga : Int) := ⟨_, rfl⟩
  obtain ⟨uWpr, uhWpr⟩ : ∃ x, x = w4 upr := ⟨_, rfl⟩
  obtain ⟨uWti, uhWti⟩ : ∃ x, x = w4 uti := ⟨_, rfl⟩
  obtain ⟨uWca, uhWca⟩ : ∃ x, x = w4 uca := ⟨_, rfl⟩
  obtain ⟨uWva, uhWva⟩ : ∃ x, x = w4 uva := ⟨_, rfl⟩
  obtain ⟨uWbc, uhWbc⟩ : ∃ x, x = w4 ubc := ⟨_, rfl⟩
  obtain ⟨uWv, uhWv⟩ : ∃ x, x = w4 uv := ⟨_, rfl⟩
  obtain ⟨uWr, uhWr⟩ : ∃ x, x = w4 ur := ⟨_, rfl⟩
  obtain ⟨uWs, uhWs⟩ : ∃ x, x = w4 us := ⟨_, rfl⟩
  obtain ⟨uWto, uhWto⟩ : ∃ x, x = u8s uto := ⟨_, rfl⟩
  obtain ⟨uD, uhD⟩ : ∃ x, x = ud.map b8' := ⟨_, rfl⟩
  obtain ⟨uA, uhA⟩ : ∃ x, x = uac.map Ent.row := ⟨_, rfl⟩
  obtain ⟨uB, uhB⟩ : ∃ x, x = ubl.map key := ⟨_, rfl⟩
  obtain ⟨uU, uhU⟩ : ∃ x, x = uau.map Au.row := ⟨_, rfl⟩
  obtain ⟨uIch, uhIch⟩ : ∃ x : Int, x = (uch : Int) := ⟨_, rfl⟩
  obtain ⟨uIno, uhIno⟩ : ∃ x : Int, x = (uno : Int) := ⟨_, rfl⟩
  obtain ⟨uIga, uhIga⟩ : ∃ x : Int, x = (uga : Int) := ⟨_, rfl⟩
  have trow : Tx.row ⟨tty, tch, tno, tpr, tti, tca, tga, tcr, tto, tva, td, tsd, tac, tsac, tbc, tbl, tsbl, tau, tsau, tv, tr, ts⟩ = [.c (.v (.int .i64 tty)), .c (.v (.int .u64 tIch)), .c (.v (.int .u64 tIno)), .r 4 tWpr, .r 4 tWti, .r 4 tWca, .c (.v (.int .u64 tIga)), .c (.v (.bool tcr)), .r 20 tWto, .r 4 tWva, .c (.sl tD tsd), .c (.sl tA tsac), .r 4 tWbc, .c (.sl tB tsbl), .c (.sl tU tsau), .r 4 tWv, .r 4 tWr, .r 4 tWs] := by rw [thWpr, thWti, thWca, thWva, thWbc, thWv, thWr, thWs, thWto, thD, thA, thB, thU, thIch, thIno, thIga]; rfl
  have urow : Tx.row ⟨uty, uch, uno, upr, uti, uca, uga, ucr, uto, uva, ud, usd, uac, usac, ubc, ubl, usbl, uau, usau, uv, ur, us⟩ = [.c (.v (.int .i64 uty)), .c (.v (.int .u64 uIch)), .c (.v (.int .u64 uIno)), .r 4 uWpr, .r 4 uWti, .r 4 uWca, .c (.v (.int .u64 uIga)), .c (.v (.bool ucr)), .r 20 uWto, .r 4 uWva, .c (.sl uD usd), .c (.sl uA usac), .r 4 uWbc, .c (.sl uB usbl), .c (.sl uU usau), .r 4 uWv, .r 4 uWr, .r 4 uWs] := by rw [uhWpr, uhWti, uhWca, uhWva, uhWbc, uhWv, uhWr, uhWs, uhWto, uhD, uhA, uhB, uhU, uhIch, uhIno, uhIga]; rfl
  obtain ⟨R, hR⟩ : ∃ R, R = a5s := ⟨_, rfl⟩
  obtain ⟨M, hM⟩ : ∃ M, M = [key mkH, key mkH] := ⟨_, rfl⟩
  obtain ⟨tLA, thLA⟩ : ∃ L, L = (tac.map Ent.lent).map Ent.row := ⟨_, rfl⟩
  obtain ⟨uLA, uhLA⟩ : ∃ L, L = (uac.map Ent.lent).map Ent.row := ⟨_, rfl⟩
  have tlrow : Tx.row (Tx.lent ⟨tty, tch, tno, tpr, tti, tca, tga, tcr, tto, tva, td, tsd, tac, tsac, tbc, tbl, tsbl, tau, tsau, tv, tr, ts⟩) = [.c (.v (.int .i64 tty)), .c (.v (.int .u64 tIch)), .c (.v (.int .u64 tIno)), .r 4 tWpr, .r 4 tWti, .r 4 tWca, .c (.v (.int .u64 tIga)), .c (.v (.bool tcr)), .r 20 tWto, .r 4 tWva, .c (.sl tD R), .c (.sl tLA [mkE.row, mkE.row]), .r 4 tWbc, .c (.sl tB M), .c (.sl tU [mkAu.row, mkAu.row]), .r 4 tWv, .r 4 tWr, .r 4 tWs] := by rw [thLA, hR, hM, thWpr, thWti, thWca, thWva, thWbc, thWv, thWr, thWs, thWto, thD, thB, thU, thIch, thIno, thIga]; rfl
  have ulrow : Tx.row (Tx.lent ⟨uty, uch, uno, upr, uti, uca, uga, ucr, uto, uva, ud, usd, uac, usac, ubc, ubl, usbl, uau, usau, uv, ur, us⟩) = [.c (.v (.int .i64 uty)), .c (.v (.int .u64 uIch)), .c (.v (.int .u64 uIno)), .r 4 uWpr, .r 4 uWti, .r 4 uWca, .c (.v (.int .u64 uIga)), .c (.v (.bool ucr)), .r 20 uWto, .r 4 uWva, .c (.sl uD R), .c (.sl uLA [mkE.row, mkE.row]), .r 4 uWbc, .c (.sl uB M), .c (.sl uU [mkAu.row, mkAu.row]), .r 4 uWv, .r 4 uWr, .r 4 uWs] := by rw [uhLA, hR, hM, uhWpr, uhWti, uhWca, uhWva, uhWbc, uhWv, uhWr, uhWs, uhWto, uhD, uhB, uhU, uhIch, uhIno, uhIga]; rfl
  rw [trow, urow] at hargs
  obtain ⟨b, hb⟩ : ∃ b : Bool, (b = true ↔ Tx.core ⟨tty, tch, tno, tpr, tti, tca, tga, tcr, tto, tva, td, tsd, tac, tsac, tbc, tbl, tsbl, tau, tsau, tv, tr, ts⟩ = Tx.core ⟨uty, uch, uno, upr, uti, uca, uga, ucr, uto, uva, ud, usd, uac, usac, ubc, ubl, usbl, uau, usau, uv, ur, us⟩) := by
    by_cases e : Tx.core ⟨tty, tch, tno, tpr, tti, tca, tga, tcr, tto, tva, td, tsd, tac, tsac, tbc, tbl, tsbl, tau, tsau, tv, tr, ts⟩ = Tx.core ⟨uty, uch, uno, upr, uti, uca, uga, ucr, uto, uva, ud, usd, uac, usac, ubc, ubl, usbl, uau, usau, uv, ur, us⟩
    · exact ⟨true, by simp [e]⟩
    · exact ⟨false, by simp [e]⟩
  have cwT : ∀ (Γ : Ctx) (d' : Nat) (k : List PR → Prop) (Q : Prop), Γ = ctx Tryd.prog d' → k [.a [.c (.v (.int .i64 tty)), .c (.v (.int .u64 tIch)), .c (.v (.int .u64 tIno)), .r 4 tWpr, .r 4 tWti, .r 4 tWca, .c (.v (.int .u64 tIga)), .c (.v (.bool tcr)), .r 20 tWto, .r 4 tWva, .c (.sl tD R), .c (.sl tLA [mkE.row, mkE.row]), .r 4 tWbc, .c (.sl tB M), .c (.sl tU [mkAu.row, mkAu.row]), .r 4 tWv, .r 4 tWr, .r 4 tWs]] → Γ.g 9 [.a [.c (.v (.int .i64 tty)), .c (.v (.int .u64 tIch)), .c (.v (.int .u64 tIno)), .r 4 tWpr, .r 4 tWti, .r 4 tWca, .c (.v (.int .u64 tIga)), .c (.v (.bool tcr)), .r 20 tWto, .r 4 tWva, .c (.sl tD tsd), .c (.sl tA tsac), .r 4 tWbc, .c (.sl tB tsbl), .c (.sl tU tsau), .r 4 tWv, .r 4 tWr, .r 4 tWs]] k ∨ Q := fun Γ d' k Q hΓ hk => call_by hΓ twin15_sound ⟨_, by rw [← trow], hs, by rw [tlrow]; exact hk⟩
  have cwU : ∀ (Γ : Ctx) (d' : Nat) (k : List PR → Prop) (Q : Prop), Γ = ctx Tryd.prog d' → k [.a [.c (.v (.int .i64 uty)), .c (.v (.int .u64 uIch)), .c (.v (.int .u64 uIno)), .r 4 uWpr, .r 4 uWti, .r 4 uWca, .c (.v (.int .u64 uIga)), .c (.v (.bool ucr)), .r 20 uWto, .r 4 uWva, .c (.sl uD R), .c (.sl uLA [mkE.row, mkE.row]), .r 4 uWbc, .c (.sl uB M), .c (.sl uU [mkAu.row, mkAu.row]), .r 4 uWv, .r 4 uWr, .r 4 uWs]] → Γ.g 9 [.a [.c (.v (.int .i64 uty)), .c (.v (.int .u64 uIch)), .c (.v (.int .u64 uIno)), .r 4 uWpr, .r 4 uWti, .r 4 uWca, .c (.v (.int .u64 uIga)), .c (.v (.bool ucr)), .r 20 uWto, .r 4 uWva, .c (.sl uD usd), .c (.sl uA usac), .r 4 uWbc, .c (.sl uB usbl), .c (.sl uU usau), .r 4 uWv, .r 4 uWr, .r 4 uWs]] k ∨ Q := fun Γ d' k Q hΓ hk => call_by hΓ twin15_sound ⟨_, by rw [← urow], hus, by rw [ulrow]; exact hk⟩
  have cwT' : ∀ (Γ : Ctx) (d' : Nat) (k : List PR → Prop), Γ = ctx Tryd.prog d' → k [.a [.c (.v (.int .i64 tty)), .c (.v (.int .u64 tIch)), .c (.v (.int .u64 tIno)), .r 4 tWpr, .r 4 tWti, .r 4 tWca, .c (.v (.int .u64 tIga)), .c (.v (.bool tcr)), .r 20 tWto, .r 4 tWva, .c (.sl tD R), .c (.sl tLA [mkE.row, mkE.row]), .r 4 tWbc, .c (.sl tB M), .c (.sl tU [mkAu.row, mkAu.row]), .r 4 tWv, .r 4 tWr, .r 4 tWs]] → Γ.g 9 [.a [.c (.v (.int .i64 tty)), .c (.v (.int .u64 tIch)), .c (.v (.int .u64 tIno)), .r 4 tWpr, .r 4 tWti, .r 4 tWca, .c (.v (.int .u64 tIga)), .c (.v (.bool tcr)), .r 20 tWto, .r 4 tWva, .c (.sl tD tsd), .c (.sl tA tsac), .r 4 tWbc, .c (.sl tB tsbl), .c (.sl tU tsau), .r 4 tWv, .r 4 tWr, .r 4 tWs]] k := fun Γ d' k hΓ hk => call_by' hΓ twin15_sound ⟨_, by rw [← trow], hs, by rw [tlrow]; exact hk⟩
  have c1 : ∀ (Γ : Ctx) (d' : Nat) (k : List PR → Prop), Γ = ctx Tryd.prog d' → k [.s (.v (.bool b))] → Γ.g 10 [.a [.c (.v (.int .i64 tty)), .c (.v (.int .u64 tIch)), .c (.v (.int .u64 tIno)), .r 4 tWpr, .r 4 tWti, .r 4 tWca, .c (.v (.int .u64 tIga)), .c (.v (.bool tcr)), .r 20 tWto, .r 4 tWva, .c (.sl tD R), .c (.sl tLA [mkE.row, mkE.row]), .r 4 tWbc, .c (.sl tB M), .c (.sl tU [mkAu.row, mkAu.row]), .r 4 tWv, .r 4 tWr, .r 4 tWs], .a [.c (.v (.int .i64 uty)), .c (.v (.int .u64 uIch)), .c (.v (.int .u64 uIno)), .r 4 uWpr, .r 4 uWti, .r 4 uWca, .c (.v (.int .u64 uIga)), .c (.v (.bool ucr)), .r 20 uWto, .r 4 uWva, .c (.sl uD R), .c (.sl uLA [mkE.row, mkE.row]), .r 4 uWbc, .c (.sl uB M), .c (.sl uU [mkAu.row, mkAu.row]), .r 4 uWv, .r 4 uWr, .r 4 uWs]] k := fun Γ d' k hΓ hk => call_by' hΓ txSame_sound ⟨_, _, b, by rw [← tlrow, ← ulrow], lent_ok ho, lent_ok uo, lent_small hs, by rw [lent_core, lent_core]; exact hb, hk⟩
  have c2 : ∀ (Γ : Ctx) (d' : Nat) (k : List PR → Prop), Γ = ctx Tryd.prog d' → k [.s (.v (.bool b))] → Γ.g 11 [.a [.c (.v (.int .i64 tty)), .c (.v (.int .u64 tIch)), .c (.v (.int .u64 tIno)), .r 4 tWpr, .r 4 tWti, .r 4 tWca, .c (.v (.int .u64 tIga)), .c (.v (.bool tcr)), .r 20 tWto, .r 4 tWva, .c (.sl tD tsd), .c (.sl tA tsac), .r 4 tWbc, .c (.sl tB tsbl), .c (.sl tU tsau), .r 4 tWv, .r 4 tWr, .r 4 tWs], .a [.c (.v (.int .i64 uty)), .c (.v (.int .u64 uIch)), .c (.v (.int .u64 uIno)), .r 4 uWpr, .r 4 uWti, .r 4 uWca, .c (.v (.int .u64 uIga)), .c (.v (.bool ucr)), .r 20 uWto, .r 4 uWva, .c (.sl uD usd), .c (.sl uA usac), .r 4 uWbc, .c (.sl uB usbl), .c (.sl uU usau), .r 4 uWv, .r 4 uWr, .r 4 uWs]] k := fun Γ d' k hΓ hk => call_by' hΓ refSame_sound ⟨_, _, b, by rw [← trow, ← urow], ho, uo, hs, hb, hk⟩
  have c3 : ∀ (Γ : Ctx) (d' : Nat) (k : List PR → Prop), Γ = ctx Tryd.prog d' → k [.s (.v (.bool true))] → Γ.g 10 [.a [.c (.v (.int .i64 tty)), .c (.v (.int .u64 tIch)), .c (.v (.int .u64 tIno)), .r 4 tWpr, .r 4 tWti, .r 4 tWca, .c (.v (.int .u64 tIga)), .c (.v (.bool tcr)), .r 20 tWto, .r 4 tWva, .c (.sl tD R), .c (.sl tLA [mkE.row, mkE.row]), .r 4 tWbc, .c (.sl tB M), .c (.sl tU [mkAu.row, mkAu.row]), .r 4 tWv, .r 4 tWr, .r 4 tWs], .a [.c (.v (.int .i64 tty)), .c (.v (.int .u64 tIch)), .c (.v (.int .u64 tIno)), .r 4 tWpr, .r 4 tWti, .r 4 tWca, .c (.v (.int .u64 tIga)), .c (.v (.bool tcr)), .r 20 tWto, .r 4 tWva, .c (.sl tD R), .c (.sl tLA [mkE.row, mkE.row]), .r 4 tWbc, .c (.sl tB M), .c (.sl tU [mkAu.row, mkAu.row]), .r 4 tWv, .r 4 tWr, .r 4 tWs]] k := fun Γ d' k hΓ hk => call_by' hΓ txSame_sound ⟨_, _, true, by rw [← tlrow], lent_ok ho, lent_ok ho, lent_small hs, by simp, hk⟩
  have c4 : ∀ (Γ : Ctx) (d' : Nat) (k : List PR → Prop), Γ = ctx Tryd.prog d' → k [.s (.v (.bool true))] → Γ.g 12 [.a [.c (.v (.int .i64 tty)), .c (.v (.int .u64 tIch)), .c (.v (.int .u64 tIno)), .r 4 tWpr, .r 4 tWti, .r 4 tWca, .c (.v (.int .u64 tIga)), .c (.v (.bool tcr)), .r 20 tWto, .r 4 tWva, .c (.sl tD R), .c (.sl tLA [mkE.row, mkE.row]), .r 4 tWbc, .c (.sl tB M), .c (.sl tU [mkAu.row, mkAu.row]), .r 4 tWv, .r 4 tWr, .r 4 tWs], .a [.c (.v (.int .i64 tty)), .c (.v (.int .u64 tIch)), .c (.v (.int .u64 tIno)), .r 4 tWpr, .r 4 tWti, .r 4 tWca, .c (.v (.int .u64 tIga)), .c (.v (.bool tcr)), .r 20 tWto, .r 4 tWva, .c (.sl tD tsd), .c (.sl tA tsac), .r 4 tWbc, .c (.sl tB tsbl), .c (.sl tU tsau), .r 4 tWv, .r 4 tWr, .r 4 tWs]] k := fun Γ d' k hΓ hk => call_by' hΓ untouched15_sound ⟨_, by rw [← tlrow, ← trow], hs, ho, hk⟩
  have c5 : ∀ (Γ : Ctx) (d' : Nat) (k : List PR → Prop), Γ = ctx Tryd.prog d' → k [.s (.v (.bool true))] → Γ.g 12 [.a [.c (.v (.int .i64 uty)), .c (.v (.int .u64 uIch)), .c (.v (.int .u64 uIno)), .r 4 uWpr, .r 4 uWti, .r 4 uWca, .c (.v (.int .u64 uIga)), .c (.v (.bool ucr)), .r 20 uWto, .r 4 uWva, .c (.sl uD R), .c (.sl uLA [mkE.row, mkE.row]), .r 4 uWbc, .c (.sl uB M), .c (.sl uU [mkAu.row, mkAu.row]), .r 4 uWv, .r 4 uWr, .r 4 uWs], .a [.c (.v (.int .i64 uty)), .c (.v (.int .u64 uIch)), .c (.v (.int .u64 uIno)), .r 4 uWpr, .r 4 uWti, .r 4 uWca, .c (.v (.int .u64 uIga)), .c (.v (.bool ucr)), .r 20 uWto, .r 4 uWva, .c (.sl uD usd), .c (.sl uA usac), .r 4 uWbc, .c (.sl uB usbl), .c (.sl uU usau), .r 4 uWv, .r 4 uWr, .r 4 uWs]] k := fun Γ d' k hΓ hk => call_by' hΓ untouched15_sound ⟨_, by rw [← ulrow, ← urow], hus, uo, hk⟩
  have hbb : ar.bb .eql b b = true := tBb har b
  clear trow urow tlrow ulrow hb
  subst hargs
  conv => cbv
  refine cwT _ _ _ _ hΓ ?_
  conv => cbv
  refine cwU _ _ _ _ hΓ ?_
  conv => cbv
  refine ⟨by rw [har]; kernel_rfl, ?_⟩
  refine c1 _ _ _ hΓ ?_
  conv => cbv
  refine c2 _ _ _ hΓ ?_
  conv => cbv
  refine onT hbb ?_
  conv => cbv
  refine cwT' _ _ _ hΓ ?_
  conv => cbv
  refine c3 _ _ _ hΓ ?_
  conv => cbv
  refine onT rfl ?_
  conv => cbv
  refine c4 _ _ _ hΓ ?_
  conv => cbv
  refine onT rfl ?_
  conv => cbv
  refine c5 _ _ _ hΓ ?_
  conv => cbv
  exact hk
end Go.Eng
