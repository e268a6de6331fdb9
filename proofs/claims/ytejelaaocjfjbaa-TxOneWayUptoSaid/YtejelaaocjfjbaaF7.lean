/-
  tx.Encode, Check. Condition: as of tx.item.
-/
import Derived.Test.YtejelaaocjfjbaaFB
import Derived.Test.YtejelaaocjfjbaaLA
namespace Go.Eng
open Go Go.Proofs
set_option maxRecDepth 100000
set_option maxHeartbeats 8000000
set_option linter.unusedVariables false

def preB (ty : Int) : List Int := if ty = 0 then [] else [ty]
/-- A transaction's bytes, and the error. -/
def encR (t : Tx) : List Int × Int :=
  if draftE t ≠ 0 then ([], draftE t) else if signB t = false then ([], 154) else if (itsR t (txFs t.ty)).2 ≠ 0 then ([], (itsR t (txFs t.ty)).2)
  else if 16777216 < (preB t.ty).length + (enc (It.lst (itsR t (txFs t.ty)).1)).length then ([], 2) else (preB t.ty ++ enc (It.lst (itsR t (txFs t.ty)).1), 0)

theorem draft_ty {t : Tx} (h : draftE t = 0) : 0 ≤ t.ty ∧ t.ty < 5 := by
  unfold draftE at h
  split at h
  · cases h
  · omega
theorem txFs_len (y : Int) : (txFs y).length ≤ 14 := by unfold txFs; (repeat' split) <;> decide
theorem itsR_ok {t : Tx} {fs : List Int} (h : (itsR t fs).2 = 0) : (itsR t fs).1 = itsL t fs ∧ errOf (It.lst (itsL t fs)) = 0 ∧ ∀ f ∈ fs, (itemP t f).2 = 0 := by
  unfold itsR at h ⊢
  split
  · rename_i f hf
    rw [hf] at h
    have := List.find?_some hf
    simp only at h
    simp [h] at this
  · rename_i hf
    rw [hf] at h
    simp only at h
    split at h
    · rename_i he
      simp only [he, if_true]
      exact ⟨trivial, trivial, fun f hm => by have := List.find?_eq_none.1 hf f hm; simpa using this⟩
    · rename_i he
      exact absurd (Int.ofNat.inj h) he

theorem encode15_sound : Sound Try.prog 8 fun args k => ∃ (t : Tx), args = [.a t.row] ∧ t.ok ∧ t.fit ∧ k [.s (.sl ((encR t).1.map b8) []), .s (.v (.int .i64 (encR t).2))] := by
  refine Sound.of_body tt_ok ent_ok Try.func8 rfl ?_
  rintro ar har Γ hΓ args k ⟨⟨tty, tch, tno, tpr, tti, tca, tga, tcr, tto, tva, td, tsd, tac, tsac, tbc, tbl, tsbl, tau, tsau, tv, tr, ts⟩, hargs, hto, hft, hk⟩
  obtain ⟨t, ht⟩ : ∃ t, t = Tx.mk tty tch tno tpr tti tca tga tcr tto tva td tsd tac tsac tbc tbl tsbl tau tsau tv tr ts := ⟨_, rfl⟩
  obtain ⟨tWpr, thWpr⟩ : ∃ x, x = w4 tpr := ⟨_, rfl⟩
  obtain ⟨tWti, thWti⟩ : ∃ x, x = w4 tti := ⟨_, rfl⟩
  obtain ⟨tWca, thWca⟩ : ∃ x, x = w4 tca := ⟨_, rfl⟩
  obtain ⟨tWva, thWva⟩ : ∃ x, x = w4 tva := ⟨_, rfl⟩
  obtain ⟨tWbc, thWbc⟩ : ∃ x, x = w4 tbc := ⟨_, rfl⟩
  obtain ⟨tWv, thWv⟩ : ∃ x, x = w4 tv := ⟨_, rfl⟩
  obtain ⟨tWr, thWr⟩ : ∃ x, x = w4 tr := ⟨_, rfl⟩
  obtain ⟨tWs, thWs⟩ : ∃ x, x = w4 ts := ⟨_, rfl⟩
  obtain ⟨tWto, thWto⟩ : ∃ x, x = u8s tto := ⟨_, rfl⟩
  obtain ⟨tD, thD⟩ : ∃ x, x = td.map b8' := ⟨_, rfl⟩
  obtain ⟨tA, thA⟩ : ∃ x, x = tac.map Ent.row := ⟨_, rfl⟩
  obtain ⟨tB, thB⟩ : ∃ x, x = tbl.map key := ⟨_, rfl⟩
  obtain ⟨tU, thU⟩ : ∃ x, x = tau.map Au.row := ⟨_, rfl⟩
  obtain ⟨tIch, thIch⟩ : ∃ x : Int, x = (tch : Int) := ⟨_, rfl⟩
  obtain ⟨tIno, thIno⟩ : ∃ x : Int, x = (tno : Int) := ⟨_, rfl⟩
  obtain ⟨tIga, thIga⟩ : ∃ x : Int, x = (tga : Int) := ⟨_, rfl⟩
  have hrow : t.row = [.c (.v (.int .i64 tty)), .c (.v (.int .u64 tIch)), .c (.v (.int .u64 tIno)), .r 4 tWpr, .r 4 tWti, .r 4 tWca, .c (.v (.int .u64 tIga)), .c (.v (.bool tcr)), .r 20 tWto, .r 4 tWva, .c (.sl tD tsd), .c (.sl tA tsac), .r 4 tWbc, .c (.sl tB tsbl), .c (.sl tU tsau), .r 4 tWv, .r 4 tWr, .r 4 tWs] := by rw [ht]; exact (by rw [thWpr, thWti, thWca, thWva, thWbc, thWv, thWr, thWs, thWto, thD, thA, thB, thU, thIch, thIno, thIga]; rfl)
  rw [← ht] at hargs hto hft hk
  have hty : t.ty = tty := by rw [ht]
  obtain ⟨de, hde⟩ : ∃ x, x = draftE t := ⟨_, rfl⟩
  obtain ⟨sb, hsb⟩ : ∃ x, x = signB t := ⟨_, rfl⟩
  obtain ⟨F, hF⟩ : ∃ x, x = (txFs tty).map irow := ⟨_, rfl⟩
  obtain ⟨ie, hie⟩ : ∃ x, x = (itsR t (txFs tty)).2 := ⟨_, rfl⟩
  obtain ⟨its, hits⟩ : ∃ x, x = (itsR t (txFs tty)).1 := ⟨_, rfl⟩
  obtain ⟨I, hI⟩ : ∃ x, x = rowsOf its := ⟨_, rfl⟩
  obtain ⟨bd, hbd⟩ : ∃ x, x = enc (It.lst its) := ⟨_, rfl⟩
  obtain ⟨Y, hY⟩ : ∃ x, x = bd.map b8 := ⟨_, rfl⟩
  have hYl : ar.len Y = (bd.length : Int) := by rw [lenIs har, hY, List.length_map]
  have hYn : Y.length = bd.length := by rw [hY, List.length_map]
  have callD : ∀ (Γ : Ctx) (d' : Nat) (k : List PR → Prop) (R : Prop), Γ = ctx Try.prog d' → k [.s (.v (.int .i64 de))] → Γ.g 18 [.a [.c (.v (.int .i64 tty)), .c (.v (.int .u64 tIch)), .c (.v (.int .u64 tIno)), .r 4 tWpr, .r 4 tWti, .r 4 tWca, .c (.v (.int .u64 tIga)), .c (.v (.bool tcr)), .r 20 tWto, .r 4 tWva, .c (.sl tD tsd), .c (.sl tA tsac), .r 4 tWbc, .c (.sl tB tsbl), .c (.sl tU tsau), .r 4 tWv, .r 4 tWr, .r 4 tWs]] k ∨ R := fun Γ d' k R hΓ hk => call_by hΓ draft_sound ⟨t, by rw [hrow], hto, hft.small, by rw [← hde]; exact hk⟩
  have callS : ∀ (Γ : Ctx) (d' : Nat) (k : List PR → Prop) (R : Prop), Γ = ctx Try.prog d' → k [.s (.v (.bool sb))] → Γ.g 19 [.a [.c (.v (.int .i64 tty)), .c (.v (.int .u64 tIch)), .c (.v (.int .u64 tIno)), .r 4 tWpr, .r 4 tWti, .r 4 tWca, .c (.v (.int .u64 tIga)), .c (.v (.bool tcr)), .r 20 tWto, .r 4 tWva, .c (.sl tD tsd), .c (.sl tA tsac), .r 4 tWbc, .c (.sl tB tsbl), .c (.sl tU tsau), .r 4 tWv, .r 4 tWr, .r 4 tWs]] k ∨ R := fun Γ d' k R hΓ hk => call_by hΓ signable_sound ⟨t, by rw [hrow], hto, by rw [← hsb]; exact hk⟩
  have callR : ∀ (Γ : Ctx) (d' : Nat) (k : List PR → Prop), Γ = ctx Try.prog d' → k [.s (.sl F [])] → Γ.g 21 [.s (.v (.int .i64 tty))] k := fun Γ d' k hΓ hk => call_by' hΓ rowOf_sound ⟨tty, rfl, by rw [← hF]; exact hk⟩
  have callI : ∀ (Γ : Ctx) (d' : Nat) (k : List PR → Prop), Γ = ctx Try.prog d' → k [.s (.sl I []), .s (.v (.int .i64 ie))] → Γ.g 20 [.a [.c (.v (.int .i64 tty)), .c (.v (.int .u64 tIch)), .c (.v (.int .u64 tIno)), .r 4 tWpr, .r 4 tWti, .r 4 tWca, .c (.v (.int .u64 tIga)), .c (.v (.bool tcr)), .r 20 tWto, .r 4 tWva, .c (.sl tD tsd), .c (.sl tA tsac), .r 4 tWbc, .c (.sl tB tsbl), .c (.sl tU tsau), .r 4 tWv, .r 4 tWr, .r 4 tWs], .s (.sl F [])] k := fun Γ d' k hΓ hk => call_by' hΓ items_sound ⟨t, txFs tty, [], by rw [hrow, hF], hto, hft, by have := txFs_len tty; omega, by rw [← hits, ← hI, ← hie]; exact hk⟩
  have facts : ie = 0 → strips its = its ∧ bulks its ≤ 2 ^ 29 ∧ depths its ≤ 3 ∧ errOf (It.lst its) = 0 := fun h => by
    obtain ⟨h1, h2, _⟩ := itsR_ok (hie ▸ h)
    rw [← hits] at h1
    obtain ⟨g1, g2, g3⟩ := itsL_facts hto hft (txFs tty)
    rw [← h1] at g1 g2 g3 h2
    have := txFs_len tty
    have g4 : (txFs tty).length * 2 ^ 25 ≤ 14 * 2 ^ 25 := Nat.mul_le_mul_right _ this
    exact ⟨g1, by omega, g3, h2⟩
  have callL : ∀ (Γ : Ctx) (d' : Nat) (k : List PR → Prop) (R : Prop), Γ = ctx Try.prog d' → ie = 0 → k [.a [.c (.v (.bool true)), .c (.sl [] []), .c (.sl I [])]] → Γ.g 23 [.s (.sl I [])] k ∨ R := fun Γ d' k R hΓ h0 hk => call_by hΓ list_sound ⟨its, [], by rw [hI], by have := (facts h0).2.1; omega, by rw [(facts h0).1]; rw [hI] at hk; exact hk⟩
  have callE : ∀ (Γ : Ctx) (d' : Nat) (k : List PR → Prop) (R : Prop), Γ = ctx Try.prog d' → ie = 0 → k [.s (.sl Y []), .s (.v (.int .i64 0))] → Γ.g 22 [.a [.c (.v (.bool true)), .c (.sl [] []), .c (.sl I [])]] k ∨ R := fun Γ d' k R hΓ h0 hk => call_by hΓ encodeT_sound ⟨It.lst its, by rw [hI]; rfl, by have := (facts h0).2.1; simp only [It.lst, It.bulk, List.length_nil]; omega, by have := (facts h0).2.2.1; show depths its + 1 ≤ 4; omega, by rw [(facts h0).2.2.2, if_pos rfl, ← hbd, ← hY]; exact hk⟩
  have hE : encR t = if de ≠ 0 then ([], de) else if sb = false then ([], 154) else if ie ≠ 0 then ([], ie) else if 16777216 < (preB tty).length + bd.length then ([], 2) else (preB tty ++ bd, 0) := by
    unfold encR; rw [← hde, ← hsb, hty, ← hie, ← hits, ← hbd]
  have hd5 : de = 0 → 0 ≤ tty ∧ tty < 5 := fun h => by rw [← hty]; exact draft_ty (hde ▸ h)
  rw [hE] at hk
  rw [hrow] at hargs
  clear ht hE hde hsb hits hie
  have n1 : ar.nb true = false := by rw [har]; rfl
  have n0 : ar.nb false = true := by rw [har]; rfl
  have f0 : ar.cb .neq 0 0 = false := dNne har rfl
  have hbl : (enc (It.lst its)).length = bd.length := by rw [hbd]
  have hbl2 : ie = 0 → bd.length ≤ 2 ^ 40 := fun h => by
    have h1 := (facts h).2.1
    have h2 := enc_len (It.lst its) (by simp only [It.lst, It.bulk, List.length_nil]; omega)
    simp only [It.lst, It.bulk, List.length_nil] at h2 hbl
    omega
  subst hargs
  conv => cbv
  refine callD _ _ _ _ hΓ ?_
  conv => cbv
  refine ⟨fun h => ?_, fun h => ?_⟩
  · have g := cNe har (a := de) (b := 0) h
    rw [if_pos g] at hk
    conv => cbv
    exact hk
  have g := cNne har (a := de) (b := 0) h
  have hd5 := hd5 g
  rw [if_neg (by omega)] at hk
  conv => cbv
  refine callS _ _ _ _ hΓ ?_
  conv => cbv
  cases sb with
  | false =>
    rw [if_pos rfl] at hk
    refine onT n0 ?_
    conv => cbv
    exact hk
  | true =>
  rw [if_neg (by decide)] at hk
  refine onF n1 ?_
  conv => cbv
  refine ⟨by rw [har]; kernel_rfl, ?_⟩
  refine callR _ _ _ hΓ ?_
  conv => cbv
  refine callI _ _ _ hΓ ?_
  conv => cbv
  refine ⟨fun h => ?_, fun h => ?_⟩
  · have g2 := cNe har (a := ie) (b := 0) h
    rw [if_pos g2] at hk
    conv => cbv
    exact hk
  have g2 := cNne har (a := ie) (b := 0) h
  have hbl2 := hbl2 g2
  rw [if_neg (by omega)] at hk
  conv => cbv
  refine ⟨fun h => ?_, fun h => ?_⟩
  · have g3 := cNe har (a := tty) (b := 0) h
    have hp : preB tty = [tty] := by rw [preB, if_neg g3]
    rw [hp, List.length_singleton] at hk
    have hcv : ar.cv .u8 tty = tty := by rw [cvU8 har]; omega
    conv => cbv
    refine callL _ _ _ _ hΓ g2 ?_
    conv => cbv
    refine callE _ _ _ _ hΓ g2 ?_
    have hl1 : ar.ib .add .i64 (ar.len [[.c (.v (.int .u8 (ar.cv .u8 tty)))]]) (ar.len Y) = ((1 + bd.length : Nat) : Int) := by rw [lenIs har [[PS.c (.v (.int .u8 (ar.cv .u8 tty)))]], hYl, iAdd har (by simp only [List.length_singleton]; omega)]; simp only [List.length_singleton]; omega
    have hap : ar.app [[.c (.v (.int .u8 (ar.cv .u8 tty)))]] Y = ([tty] ++ bd).map b8 := by rw [appIs har, hcv, hY]; rfl
    have s1 : (1 + Y.length) * 1 ≤ 140737488355328 ∧ ∀ y ∈ Y, rlen y = 1 := ⟨by omega, by rw [hY]; exact b8_all _⟩
    conv => cbv
    refine ⟨fun _ => ?_, fun h => absurd (f0.symm.trans h) (by decide)⟩
    conv => cbv
    refine ⟨fun h => ?_, fun h => ?_⟩
    · have g4 := cGt har (a := ar.ib .add .i64 (ar.len [[.c (.v (.int .u8 (ar.cv .u8 tty)))]]) (ar.len Y)) (b := 16777216) h
      rw [hl1] at g4
      rw [if_pos (by omega)] at hk
      conv => cbv
      exact hk
    · have g4 := cNgt har (a := ar.ib .add .i64 (ar.len [[.c (.v (.int .u8 (ar.cv .u8 tty)))]]) (ar.len Y)) (b := 16777216) h
      rw [hl1] at g4
      rw [if_neg (by omega), ← hap] at hk
      conv => cbv
      exact ⟨fun _ => s1, hk⟩
  · have g3 := cNne har (a := tty) (b := 0) h
    have hp : preB tty = [] := by rw [preB, if_pos g3]
    rw [hp, List.length_nil] at hk
    conv => cbv
    refine callL _ _ _ _ hΓ g2 ?_
    conv => cbv
    refine callE _ _ _ _ hΓ g2 ?_
    have hl1 : ar.ib .add .i64 0 (ar.len Y) = (bd.length : Int) := by rw [hYl, iAdd har (by omega)]; omega
    have hap : ar.app [] Y = ([] ++ bd).map b8 := by rw [appIs har, hY]; rfl
    have s1 : (0 + Y.length) * 1 ≤ 140737488355328 ∧ ∀ y ∈ Y, rlen y = 1 := ⟨by omega, by rw [hY]; exact b8_all _⟩
    conv => cbv
    refine ⟨fun _ => ?_, fun h => absurd (f0.symm.trans h) (by decide)⟩
    conv => cbv
    refine ⟨fun h => ?_, fun h => ?_⟩
    · have g4 := cGt har (a := ar.ib .add .i64 0 (ar.len Y)) (b := 16777216) h
      rw [hl1] at g4
      rw [if_pos (by omega)] at hk
      conv => cbv
      exact hk
    · have g4 := cNgt har (a := ar.ib .add .i64 0 (ar.len Y)) (b := 16777216) h
      rw [hl1] at g4
      rw [if_neg (by omega), ← hap] at hk
      conv => cbv
      exact ⟨fun _ => s1, hk⟩
theorem check15_sound : Sound Try.prog 10 fun args k => ∃ (t : Tx), args = [.a t.row] ∧ t.ok ∧ t.fit ∧ k [.s (.v (.int .i64 (encR t).2))] := by
  refine Sound.of_body tt_ok ent_ok Try.func10 rfl ?_
  rintro ar har Γ hΓ args k ⟨⟨tty, tch, tno, tpr, tti, tca, tga, tcr, tto, tva, td, tsd, tac, tsac, tbc, tbl, tsbl, tau, tsau, tv, tr, ts⟩, hargs, hto, hft, hk⟩
  obtain ⟨t, ht⟩ : ∃ t, t = Tx.mk tty tch tno tpr tti tca tga tcr tto tva td tsd tac tsac tbc tbl tsbl tau tsau tv tr ts := ⟨_, rfl⟩
  obtain ⟨tWpr, thWpr⟩ : ∃ x, x = w4 tpr := ⟨_, rfl⟩
  obtain ⟨tWti, thWti⟩ : ∃ x, x = w4 tti := ⟨_, rfl⟩
  obtain ⟨tWca, thWca⟩ : ∃ x, x = w4 tca := ⟨_, rfl⟩
  obtain ⟨tWva, thWva⟩ : ∃ x, x = w4 tva := ⟨_, rfl⟩
  obtain ⟨tWbc, thWbc⟩ : ∃ x, x = w4 tbc := ⟨_, rfl⟩
  obtain ⟨tWv, thWv⟩ : ∃ x, x = w4 tv := ⟨_, rfl⟩
  obtain ⟨tWr, thWr⟩ : ∃ x, x = w4 tr := ⟨_, rfl⟩
  obtain ⟨tWs, thWs⟩ : ∃ x, x = w4 ts := ⟨_, rfl⟩
  obtain ⟨tWto, thWto⟩ : ∃ x, x = u8s tto := ⟨_, rfl⟩
  obtain ⟨tD, thD⟩ : ∃ x, x = td.map b8' := ⟨_, rfl⟩
  obtain ⟨tA, thA⟩ : ∃ x, x = tac.map Ent.row := ⟨_, rfl⟩
  obtain ⟨tB, thB⟩ : ∃ x, x = tbl.map key := ⟨_, rfl⟩
  obtain ⟨tU, thU⟩ : ∃ x, x = tau.map Au.row := ⟨_, rfl⟩
  obtain ⟨tIch, thIch⟩ : ∃ x : Int, x = (tch : Int) := ⟨_, rfl⟩
  obtain ⟨tIno, thIno⟩ : ∃ x : Int, x = (tno : Int) := ⟨_, rfl⟩
  obtain ⟨tIga, thIga⟩ : ∃ x : Int, x = (tga : Int) := ⟨_, rfl⟩
  have hrow : t.row = [.c (.v (.int .i64 tty)), .c (.v (.int .u64 tIch)), .c (.v (.int .u64 tIno)), .r 4 tWpr, .r 4 tWti, .r 4 tWca, .c (.v (.int .u64 tIga)), .c (.v (.bool tcr)), .r 20 tWto, .r 4 tWva, .c (.sl tD tsd), .c (.sl tA tsac), .r 4 tWbc, .c (.sl tB tsbl), .c (.sl tU tsau), .r 4 tWv, .r 4 tWr, .r 4 tWs] := by rw [ht]; exact (by rw [thWpr, thWti, thWca, thWva, thWbc, thWv, thWr, thWs, thWto, thD, thA, thB, thU, thIch, thIno, thIga]; rfl)
  rw [← ht] at hargs hto hft hk
  obtain ⟨e, he⟩ : ∃ x, x = (encR t).2 := ⟨_, rfl⟩
  obtain ⟨Y, hY⟩ : ∃ x, x = (encR t).1.map b8 := ⟨_, rfl⟩
  have callE : ∀ (Γ : Ctx) (d' : Nat) (k : List PR → Prop) (R : Prop), Γ = ctx Try.prog d' → k [.s (.sl Y []), .s (.v (.int .i64 e))] → Γ.g 8 [.a [.c (.v (.int .i64 tty)), .c (.v (.int .u64 tIch)), .c (.v (.int .u64 tIno)), .r 4 tWpr, .r 4 tWti, .r 4 tWca, .c (.v (.int .u64 tIga)), .c (.v (.bool tcr)), .r 20 tWto, .r 4 tWva, .c (.sl tD tsd), .c (.sl tA tsac), .r 4 tWbc, .c (.sl tB tsbl), .c (.sl tU tsau), .r 4 tWv, .r 4 tWr, .r 4 tWs]] k ∨ R := fun Γ d' k R hΓ hk => call_by hΓ encode15_sound ⟨t, by rw [hrow], hto, hft, by rw [← he, ← hY]; exact hk⟩
  rw [← he] at hk
  rw [hrow] at hargs
  subst hargs
  conv => cbv
  refine callE _ _ _ _ hΓ ?_
  conv => cbv
  exact hk
end Go.Eng
