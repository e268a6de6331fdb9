/-
  tx.Same. Condition: at most 2^36 elements in each list.
-/
import Derived.Test.YtejelaaocjfjbaaDoorE1
import Derived.Test.YtejelaaocjfjbaaDoorE4
namespace Go.Eng
open Go Go.Proofs
set_option maxRecDepth 100000
set_option maxHeartbeats 8000000
set_option linter.unusedVariables false

theorem txSame_sound : Sound Tryd.prog 10 fun args k => ∃ (t u : Tx) (b : Bool), args = [.a t.row, .a u.row] ∧ t.ok ∧ u.ok ∧ t.small ∧ (b = true ↔ t.core = u.core) ∧ k [.s (.v (.bool b))] := by
  refine Sound.of_body tt_ok ent_ok Tryd.func10 rfl ?_
  rintro ar har Γ hΓ args k ⟨⟨tty, tch, tno, tpr, tti, tca, tga, tcr, tto, tva, td, tsd, tac, tsac, tbc, tbl, tsbl, tau, tsau, tv, tr, ts⟩, ⟨uty, uch, uno, upr, uti, uca, uga, ucr, uto, uva, ud, usd, uac, usac, ubc, ubl, usbl, uau, usau, uv, ur, us⟩, b, hargs, hto, huo, hts, hb, hk⟩

  obtain ⟨tWpr, thWpr⟩ : ∃ x, x = w4 tpr := ⟨_, rfl⟩
  obtain ⟨tWti, thWti⟩ : ∃ x, x = w4 tti := ⟨_, rfl⟩
  obtain ⟨tWca, thWca⟩ : ∃ x, x = w4 tca := ⟨_, rfl⟩
  obtain ⟨tWva, thWva⟩ : ∃ x, x = w4 tva := ⟨_, rfl⟩
  obtain ⟨tWbc, thWbc⟩ : ∃ x, x = w4 tbc := ⟨_, rfl⟩
  obtain ⟨tWv, thWv⟩ : ∃ x, x = w4 tv := ⟨_, rfl⟩
  obtain ⟨tWr, thWr⟩ : ∃ x, x = w4 tr := ⟨_, rfl⟩
  obtain ⟨tWs, thWs⟩ : ∃ x, x = w4 ts := ⟨_, rfl⟩
  obtain ⟨tWto, thWto⟩ : ∃ x, x = u8s tto := ⟨_, rfl⟩
  obtain ⟨tD, thD⟩ : ∃ x, x = td.map b8' := ⟨_, rfl⟩
  obtain ⟨tA, thA⟩ : ∃ x, x = tac.map Ent.row := ⟨_, rfl⟩
  obtain ⟨tB, thB⟩ : ∃ x, x = tbl.map key := ⟨_, rfl⟩
  obtain ⟨tU, thU⟩ : ∃ x, x = tau.map Au.row := ⟨_, rfl⟩
  obtain ⟨tIch, thIch⟩ : ∃ x : Int, x = (tch : Int) := ⟨_, rfl⟩
  obtain ⟨tIno, thIno⟩ : ∃ x : Int, x = (tno : Int) := ⟨_, rfl⟩
  obtain ⟨tIga, thIga⟩ : ∃ x : Int, x = (tga : Int) := ⟨_, rfl⟩
  obtain ⟨uWpr, uhWpr⟩ : ∃ x, x = w4 upr := ⟨_, rfl⟩
  obtain ⟨uWti, uhWti⟩ : ∃ x, x = w4 uti := ⟨_, rfl⟩
  obtain ⟨uWca, uhWca⟩ : ∃ x, x = w4 uca := ⟨_, rfl⟩
  obtain ⟨uWva, uhWva⟩ : ∃ x, x = w4 uva := ⟨_, rfl⟩
  obtain ⟨uWbc, uhWbc⟩ : ∃ x, x = w4 ubc := ⟨_, rfl⟩
  obtain ⟨uWv, uhWv⟩ : ∃ x, x = w4 uv := ⟨_, rfl⟩
  obtain ⟨uWr, uhWr⟩ : ∃ x, x = w4 ur := ⟨_, rfl⟩
  obtain ⟨uWs, uhWs⟩ : ∃ x, x = w4 us := ⟨_, rfl⟩
  obtain ⟨uWto, uhWto⟩ : ∃ x, x = u8s uto := ⟨_, rfl⟩
  obtain ⟨uD, uhD⟩ : ∃ x, x = ud.map b8' := ⟨_, rfl⟩
  obtain ⟨uA, uhA⟩ : ∃ x, x = uac.map Ent.row := ⟨_, rfl⟩
  obtain ⟨uB, uhB⟩ : ∃ x, x = ubl.map key := ⟨_, rfl⟩
  obtain ⟨uU, uhU⟩ : ∃ x, x = uau.map Au.row := ⟨_, rfl⟩
  obtain ⟨uIch, uhIch⟩ : ∃ x : Int, x = (uch : Int) := ⟨_, rfl⟩
  obtain ⟨uIno, uhIno⟩ : ∃ x : Int, x = (uno : Int) := ⟨_, rfl⟩
  obtain ⟨uIga, uhIga⟩ : ∃ x : Int, x = (uga : Int) := ⟨_, rfl⟩
  have trow : Tx.row ⟨tty, tch, tno, tpr, tti, tca, tga, tcr, tto, tva, td, tsd, tac, tsac, tbc, tbl, tsbl, tau, tsau, tv, tr, ts⟩ = [.c (.v (.int .i64 tty)), .c (.v (.int .u64 tIch)), .c (.v (.int .u64 tIno)), .r 4 tWpr, .r 4 tWti, .r 4 tWca, .c (.v (.int .u64 tIga)), .c (.v (.bool tcr)), .r 20 tWto, .r 4 tWva, .c (.sl tD tsd), .c (.sl tA tsac), .r 4 tWbc, .c (.sl tB tsbl), .c (.sl tU tsau), .r 4 tWv, .r 4 tWr, .r 4 tWs] := by rw [thWpr, thWti, thWca, thWva, thWbc, thWv, thWr, thWs, thWto, thD, thA, thB, thU, thIch, thIno, thIga]; rfl
  have urow : Tx.row ⟨uty, uch, uno, upr, uti, uca, uga, ucr, uto, uva, ud, usd, uac, usac, ubc, ubl, usbl, uau, usau, uv, ur, us⟩ = [.c (.v (.int .i64 uty)), .c (.v (.int .u64 uIch)), .c (.v (.int .u64 uIno)), .r 4 uWpr, .r 4 uWti, .r 4 uWca, .c (.v (.int .u64 uIga)), .c (.v (.bool ucr)), .r 20 uWto, .r 4 uWva, .c (.sl uD usd), .c (.sl uA usac), .r 4 uWbc, .c (.sl uB usbl), .c (.sl uU usau), .r 4 uWv, .r 4 uWr, .r 4 uWs] := by rw [uhWpr, uhWti, uhWca, uhWva, uhWbc, uhWv, uhWr, uhWs, uhWto, uhD, uhA, uhB, uhU, uhIch, uhIno, uhIga]; rfl
  rw [trow, urow] at hargs
  have hno : Tx.core ⟨tty, tch, tno, tpr, tti, tca, tga, tcr, tto, tva, td, tsd, tac, tsac, tbc, tbl, tsbl, tau, tsau, tv, tr, ts⟩ ≠ Tx.core ⟨uty, uch, uno, upr, uti, uca, uga, ucr, uto, uva, ud, usd, uac, usac, ubc, ubl, usbl, uau, usau, uv, ur, us⟩ → k [.s (.v (.bool false))] := fun h => by
    have : b = false := by
      cases b with
      | false => rfl
      | true => exact absurd (hb.1 rfl) h
    rw [this] at hk; exact hk
  have hyes : Tx.core ⟨tty, tch, tno, tpr, tti, tca, tga, tcr, tto, tva, td, tsd, tac, tsac, tbc, tbl, tsbl, tau, tsau, tv, tr, ts⟩ = Tx.core ⟨uty, uch, uno, upr, uti, uca, uga, ucr, uto, uva, ud, usd, uac, usac, ubc, ubl, usbl, uau, usau, uv, ur, us⟩ → k [.s (.v (.bool true))] := fun h => by rw [hb.2 h] at hk; exact hk
  clear hk
  clear trow urow
  subst hargs
  conv => cbv

  refine ⟨fun h => ?_, fun h => ?_⟩
  rotate_left
  · have hx : tty ≠ uty := fun e => (cNe har h) (by rw [e])
    have hk := hno (fun e => hx (congrArg Tx.ty e))
    conv => cbv
    exact hk
  have ety : tty = uty := by
    have h3 := cNne har h
    exact h3
  conv => cbv
  refine ⟨fun h => ?_, fun h => ?_⟩
  rotate_left
  · have hx : tch ≠ uch := fun e => (cNe har h) (by rw [thIch, uhIch, e])
    have hk := hno (fun e => hx (congrArg Tx.ch e))
    conv => cbv
    exact hk
  have ech : tch = uch := by
    have h3 := cNne har h
    rw [thIch, uhIch] at h3; omega
  conv => cbv
  refine ⟨fun h => ?_, fun h => ?_⟩
  rotate_left
  · have hx : tno ≠ uno := fun e => (cNe har h) (by rw [thIno, uhIno, e])
    have hk := hno (fun e => hx (congrArg Tx.no e))
    conv => cbv
    exact hk
  have eno : tno = uno := by
    have h3 := cNne har h
    rw [thIno, uhIno] at h3; omega
  conv => cbv
  refine ⟨fun _ => ⟨by rw [thWpr]; exact intsW4 _, by rw [uhWpr]; exact intsW4 _⟩, fun h => ?_, fun h => ?_⟩
  rotate_left
  · have hx : tpr ≠ upr := fun e => by
      have h3 : ar.eqv tWpr uWpr = false := nbT har h
      rw [eqvIs har, thWpr, uhWpr, e, eqV4 huo.pr huo.pr] at h3; simp at h3
    have hk := hno (fun e => hx (congrArg Tx.pr e))
    conv => cbv
    exact hk
  have epr : tpr = upr := by
    have h3 : ar.eqv tWpr uWpr = true := nbF har h
    rw [eqvIs har, thWpr, uhWpr, eqV4 hto.pr huo.pr] at h3; simpa using h3
  conv => cbv
  refine ⟨fun _ => ⟨by rw [thWti]; exact intsW4 _, by rw [uhWti]; exact intsW4 _⟩, fun h => ?_, fun h => ?_⟩
  rotate_left
  · have hx : tti ≠ uti := fun e => by
      have h3 : ar.eqv tWti uWti = false := nbT har h
      rw [eqvIs har, thWti, uhWti, e, eqV4 huo.ti huo.ti] at h3; simp at h3
    have hk := hno (fun e => hx (congrArg Tx.ti e))
    conv => cbv
    exact hk
  have eti : tti = uti := by
    have h3 : ar.eqv tWti uWti = true := nbF har h
    rw [eqvIs har, thWti, uhWti, eqV4 hto.ti huo.ti] at h3; simpa using h3
  conv => cbv
  refine ⟨fun _ => ⟨by rw [thWca]; exact intsW4 _, by rw [uhWca]; exact intsW4 _⟩, fun h => ?_, fun h => ?_⟩
  rotate_left
  · have hx : tca ≠ uca := fun e => by
      have h3 : ar.eqv tWca uWca = false := nbT har h
      rw [eqvIs har, thWca, uhWca, e, eqV4 huo.ca huo.ca] at h3; simp at h3
    have hk := hno (fun e => hx (congrArg Tx.ca e))
    conv => cbv
    exact hk
  have eca : tca = uca := by
    have h3 : ar.eqv tWca uWca = true := nbF har h
    rw [eqvIs har, thWca, uhWca, eqV4 hto.ca huo.ca] at h3; simpa using h3
  conv => cbv
  refine ⟨fun h => ?_, fun h => ?_⟩
  rotate_left
  · have hx : tga ≠ uga := fun e => (cNe har h) (by rw [thIga, uhIga, e])
    have hk := hno (fun e => hx (congrArg Tx.ga e))
    conv => cbv
    exact hk
  have ega : tga = uga := by
    have h3 := cNne har h
    rw [thIga, uhIga] at h3; omega
  conv => cbv
  refine ⟨fun h => ?_, fun h => ?_⟩
  rotate_left
  · have hx : tcr ≠ ucr := fun e => by
      have h3 : ar.bb .neq tcr ucr = true := h
      rw [bbnIs har, e] at h3; simp at h3
    have hk := hno (fun e => hx (congrArg Tx.cr e))
    conv => cbv
    exact hk
  have ecr : tcr = ucr := by
    have h3 : ar.bb .neq tcr ucr = false := h
    rw [bbnIs har] at h3; simpa using h3
  conv => cbv
  refine ⟨fun _ => ⟨by rw [thWto]; exact ints_u8s _, by rw [uhWto]; exact ints_u8s _⟩, fun h => ?_, fun h => ?_⟩
  · have hx : tto ≠ uto := fun e => by
      have h3 : ar.eqv tWto uWto = false := nbT har h
      rw [eqvIs har, thWto, uhWto, eqVals_u8s, e] at h3; simp at h3
    have hk := hno (fun e => hx (congrArg Tx.to e))
    conv => cbv
    exact hk
  have eto : tto = uto := by
    have h3 : ar.eqv tWto uWto = true := nbF har h
    rw [eqvIs har, thWto, uhWto, eqVals_u8s] at h3; simpa using h3
  conv => cbv
  refine ⟨fun _ => ⟨by rw [thWva]; exact intsW4 _, by rw [uhWva]; exact intsW4 _⟩, fun h => ?_, fun h => ?_⟩
  rotate_left
  · have hx : tva ≠ uva := fun e => by
      have h3 : ar.eqv tWva uWva = false := nbT har h
      rw [eqvIs har, thWva, uhWva, e, eqV4 huo.va huo.va] at h3; simp at h3
    have hk := hno (fun e => hx (congrArg Tx.va e))
    conv => cbv
    exact hk
  have eva : tva = uva := by
    have h3 : ar.eqv tWva uWva = true := nbF har h
    rw [eqvIs har, thWva, uhWva, eqV4 hto.va huo.va] at h3; simpa using h3
  conv => cbv
  refine ⟨fun _ => ⟨by rw [thWbc]; exact intsW4 _, by rw [uhWbc]; exact intsW4 _⟩, fun h => ?_, fun h => ?_⟩
  rotate_left
  · have hx : tbc ≠ ubc := fun e => by
      have h3 : ar.eqv tWbc uWbc = false := nbT har h
      rw [eqvIs har, thWbc, uhWbc, e, eqV4 huo.bc huo.bc] at h3; simp at h3
    have hk := hno (fun e => hx (congrArg Tx.bc e))
    conv => cbv
    exact hk
  have ebc : tbc = ubc := by
    have h3 : ar.eqv tWbc uWbc = true := nbF har h
    rw [eqvIs har, thWbc, uhWbc, eqV4 hto.bc huo.bc] at h3; simpa using h3
  conv => cbv
  refine ⟨fun _ => ⟨by rw [thWv]; exact intsW4 _, by rw [uhWv]; exact intsW4 _⟩, fun h => ?_, fun h => ?_⟩
  rotate_left
  · have hx : tv ≠ uv := fun e => by
      have h3 : ar.eqv tWv uWv = false := nbT har h
      rw [eqvIs har, thWv, uhWv, e, eqV4 huo.v huo.v] at h3; simp at h3
    have hk := hno (fun e => hx (congrArg Tx.v e))
    conv => cbv
    exact hk
  have ev : tv = uv := by
    have h3 : ar.eqv tWv uWv = true := nbF har h
    rw [eqvIs har, thWv, uhWv, eqV4 hto.v huo.v] at h3; simpa using h3
  conv => cbv
  refine ⟨fun _ => ⟨by rw [thWr]; exact intsW4 _, by rw [uhWr]; exact intsW4 _⟩, fun h => ?_, fun h => ?_⟩
  rotate_left
  · have hx : tr ≠ ur := fun e => by
      have h3 : ar.eqv tWr uWr = false := nbT har h
      rw [eqvIs har, thWr, uhWr, e, eqV4 huo.r huo.r] at h3; simp at h3
    have hk := hno (fun e => hx (congrArg Tx.r e))
    conv => cbv
    exact hk
  have er : tr = ur := by
    have h3 : ar.eqv tWr uWr = true := nbF har h
    rw [eqvIs har, thWr, uhWr, eqV4 hto.r huo.r] at h3; simpa using h3
  conv => cbv
  refine ⟨fun _ => ⟨by rw [thWs]; exact intsW4 _, by rw [uhWs]; exact intsW4 _⟩, fun h => ?_, fun h => ?_⟩
  rotate_left
  · have hx : ts ≠ us := fun e => by
      have h3 : ar.eqv tWs uWs = false := nbT har h
      rw [eqvIs har, thWs, uhWs, e, eqV4 huo.s huo.s] at h3; simp at h3
    have hk := hno (fun e => hx (congrArg Tx.s e))
    conv => cbv
    exact hk
  have es : ts = us := by
    have h3 : ar.eqv tWs uWs = true := nbF har h
    rw [eqvIs har, thWs, uhWs, eqV4 hto.s huo.s] at h3; simpa using h3
  conv => cbv
  obtain ⟨bd, hbd⟩ : ∃ b : Bool, (b = true ↔ td = ud) := by
    by_cases e : td = ud
    · exact ⟨true, by simp [e]⟩
    · exact ⟨false, by simp [e]⟩
  refine call_by hΓ slEqB_sound ⟨td, ud, tsd, usd, bd, by rw [thD, uhD], by have h5 := hts.d; simp only at h5; omega, fun _ _ => trivial, fun _ _ => trivial, hbd, ?_⟩
  conv => cbv
  refine ⟨fun h => ?_, fun h => ?_⟩
  rotate_left
  · have hx : td ≠ ud := fun e => by
      have h3 := nbT har h; rw [hbd.2 e] at h3; cases h3
    have hk := hno (fun e => hx (congrArg Tx.d e))
    conv => cbv
    exact hk
  have ed : td = ud := hbd.1 (nbF har h)
  conv => cbv
  obtain ⟨bbl, hbbl⟩ : ∃ b : Bool, (b = true ↔ tbl = ubl) := by
    by_cases e : tbl = ubl
    · exact ⟨true, by simp [e]⟩
    · exact ⟨false, by simp [e]⟩
  refine call_by hΓ slEqH_sound ⟨tbl, ubl, tsbl, usbl, bbl, by rw [thB, uhB], by have h5 := hts.bl; simp only at h5; omega, fun _ _ => trivial, fun _ _ => trivial, hbbl, ?_⟩
  conv => cbv
  refine ⟨fun h => ?_, fun h => ?_⟩
  rotate_left
  · have hx : tbl ≠ ubl := fun e => by
      have h3 := nbT har h; rw [hbbl.2 e] at h3; cases h3
    have hk := hno (fun e => hx (congrArg Tx.bl e))
    conv => cbv
    exact hk
  have ebl : tbl = ubl := hbbl.1 (nbF har h)
  conv => cbv
  obtain ⟨bau, hbau⟩ : ∃ b : Bool, (b = true ↔ tau = uau) := by
    by_cases e : tau = uau
    · exact ⟨true, by simp [e]⟩
    · exact ⟨false, by simp [e]⟩
  refine call_by hΓ slEqU_sound ⟨tau, uau, tsau, usau, bau, by rw [thU, uhU], by have h5 := hts.au; simp only at h5; omega, hto.au, huo.au, hbau, ?_⟩
  conv => cbv
  refine ⟨fun h => ?_, fun h => ?_⟩
  · have hx : tau ≠ uau := fun e => by
      have h3 := nbT har h; rw [hbau.2 e] at h3; cases h3
    have hk := hno (fun e => hx (congrArg Tx.au e))
    conv => cbv
    exact hk
  have eau : tau = uau := hbau.1 (nbF har h)
  conv => cbv
  obtain ⟨bac, hbac⟩ : ∃ b : Bool, (b = true ↔ tac.map Ent.cor = uac.map Ent.cor) := by
    by_cases e : tac.map Ent.cor = uac.map Ent.cor
    · exact ⟨true, by simp [e]⟩
    · exact ⟨false, by simp [e]⟩
  have hk : k [.s (.v (.bool bac))] := by
    cases hba : bac with
    | true => exact hyes (by simp only [Tx.core]; rw [hbac.1 hba]; simp only [Tx.mk.injEq]; exact ⟨ety, ech, eno, epr, eti, eca, ega, ecr, eto, eva, ed, trivial, trivial, trivial, ebc, ebl, trivial, eau, trivial, ev, er, es⟩)
    | false => exact hno (fun e => by rw [hbac.2 (congrArg Tx.ac e)] at hba; cases hba)
  refine call_by hΓ eqFunc_sound ⟨tac, uac, tsac, usac, bac, by rw [thA, uhA], by have h5 := hts.ac; simp only at h5; omega, fun e he => by have h5 := hts.ks e he; omega, hbac, ?_⟩
  conv => cbv
  exact hk
end Go.Eng
