/-
  tx.Hash, TxRound. Condition: the transaction's lists hold at most 2^28 nodes and bytes.
-/
import Derived.Test.YtnaafeeloicklaaGreatDoorHA
import Derived.Test.YtnaafeeloicklaaGreatDoorEA
import Derived.Test.YtnaafeeloicklaaGreatDoorKA
namespace Go.Eng
open Go Go.Proofs
set_option maxRecDepth 100000
set_option maxHeartbeats 8000000
set_option linter.unusedVariables false

theorem lentR_fit {t : Tx} (h : t.fit) : t.lent.fit := ⟨h.d, by
  have e : esIts t.lent.ac = esIts t.ac := by
    show esIts (t.ac.map Ent.lent) = _
    unfold esIts; rw [List.map_map]; rfl
  rw [e]; exact h.ac, h.bl, h.au⟩
theorem lentR_enc (t : Tx) : encR t.lent = encR t := encR_same (lent_core t)
theorem encR_none {t : Tx} (h : (encR t).2 ≠ 0) : (encR t).1 = [] := by
  unfold encR at h ⊢
  (repeat' split) <;> first | rfl | (exfalso; revert h; simp [*])
/-- A transaction's hash. -/
def hashR (t : Tx) : List Int := if (encR t).2 = 0 then kec (encR t).1 else List.replicate 32 0

theorem hash15_sound : Sound Tryz.prog 10 fun args k => ∃ (t : Tx), args = [.a t.row] ∧ t.ok ∧ t.fit ∧ k [.a [.r 32 (u8s (hashR t))], .s (.v (.int .i64 (encR t).2))] := by
  refine Sound.of_body tt_ok ent_ok Tryz.func10 rfl ?_
  rintro ar har Γ hΓ args k ⟨t, hargs, hto, hft, hk⟩
  have throw : ∃ (tty tch tno tga : Int) (tpr tti tca tto tva tbc tv tr ts : List Value) (tcr : Bool) (tD tsd tA tsa tB tsb tU tsu : List (List PS)), t.row = [.c (.v (.int .i64 tty)), .c (.v (.int .u64 tch)), .c (.v (.int .u64 tno)), .r 4 tpr, .r 4 tti, .r 4 tca, .c (.v (.int .u64 tga)), .c (.v (.bool tcr)), .r 20 tto, .r 4 tva, .c (.sl tD tsd), .c (.sl tA tsa), .r 4 tbc, .c (.sl tB tsb), .c (.sl tU tsu), .r 4 tv, .r 4 tr, .r 4 ts] := ⟨_, _, _, _, _, _, _, _, _, _, _, _, _, _, _, _, _, _, _, _, _, _, rfl⟩
  obtain ⟨tty, tch, tno, tga, tpr, tti, tca, tto, tva, tbc, tv, tr, ts, tcr, tD, tsd, tA, tsa, tB, tsb, tU, tsu, trow⟩ := throw
  obtain ⟨e, hee⟩ : ∃ e, e = (encR t).2 := ⟨_, rfl⟩
  obtain ⟨T, hT⟩ : ∃ T, T = (encR t).1 := ⟨_, rfl⟩
  obtain ⟨D, hD⟩ : ∃ D, D = T.map b8 := ⟨_, rfl⟩
  obtain ⟨H, hH⟩ : ∃ H, H = u8s (kec T) := ⟨_, rfl⟩
  have hen : encR t = (T, e) := by rw [hT, hee]
  have hTb : bytesOk T := by rw [hT]; exact enc_byt hto hft
  have hyes : e = 0 → k [.a [.r 32 H], .s (.v (.int .i64 0))] := fun h => by
    unfold hashR at hk; rw [hen] at hk; simp only [h, if_true] at hk; rw [hH]; exact hk
  have hno : e ≠ 0 → k [.a [.r 32 [.int .u8 0, .int .u8 0, .int .u8 0, .int .u8 0, .int .u8 0, .int .u8 0, .int .u8 0, .int .u8 0, .int .u8 0, .int .u8 0, .int .u8 0, .int .u8 0, .int .u8 0, .int .u8 0, .int .u8 0, .int .u8 0, .int .u8 0, .int .u8 0, .int .u8 0, .int .u8 0, .int .u8 0, .int .u8 0, .int .u8 0, .int .u8 0, .int .u8 0, .int .u8 0, .int .u8 0, .int .u8 0, .int .u8 0, .int .u8 0, .int .u8 0, .int .u8 0]], .s (.v (.int .i64 e))] := fun h => by
    unfold hashR at hk; rw [hen] at hk; simp only [h, if_false] at hk; exact hk
  have hlen : e = 0 → T.length ≤ 16777216 := fun h => by rw [hT]; exact (enc_short (by rw [← hee, h])).1
  have callE : ∀ (Γ : Ctx) (d' : Nat) (k : List PR → Prop) (R : Prop), Γ = ctx Tryz.prog d' → k [.s (.sl D []), .s (.v (.int .i64 e))] → Γ.g 9 [.a [.c (.v (.int .i64 tty)), .c (.v (.int .u64 tch)), .c (.v (.int .u64 tno)), .r 4 tpr, .r 4 tti, .r 4 tca, .c (.v (.int .u64 tga)), .c (.v (.bool tcr)), .r 20 tto, .r 4 tva, .c (.sl tD tsd), .c (.sl tA tsa), .r 4 tbc, .c (.sl tB tsb), .c (.sl tU tsu), .r 4 tv, .r 4 tr, .r 4 ts]] k ∨ R := fun Γ d' k R hΓ hk => call_by hΓ encode15_sound ⟨t, by rw [trow], hto, hft, by rw [hen, hD] at *; exact hk⟩
  have callK : ∀ (Γ : Ctx) (d' : Nat) (k : List PR → Prop) (R : Prop), Γ = ctx Tryz.prog d' → e = 0 → k [.a [.r 32 H]] → Γ.g 14 [.s (.sl [[.c (.sl D [])]] [])] k ∨ R := fun Γ d' k R hΓ h0 hk => call_by hΓ sum_sound ⟨[⟨T, []⟩], [], by rw [hD]; rfl, by simp, by simp only [join, List.append_nil]; have := hlen h0; omega, by simp only [join, List.append_nil]; exact hTb, by simp, by simp only [join, List.append_nil]; rw [← hH]; exact hk⟩
  rw [trow] at hargs
  clear hk
  subst hargs
  conv => cbv
  refine callE _ _ _ _ hΓ ?_
  conv => cbv
  refine ⟨fun h => ?_, fun h => ?_⟩
  · have hk := hno (cNe har (a := e) (b := 0) h)
    conv => cbv
    exact hk
  · have h0 := cNne har (a := e) (b := 0) h
    have hk := hyes h0
    conv => cbv
    refine callK _ _ _ _ hΓ h0 ?_
    conv => cbv
    exact hk

theorem txRound_sound : Sound Tryz.prog 3 fun args k => ∃ (t : Tx), args = [.a t.row] ∧ t.ok ∧ t.fit ∧ k [.s (.v (.bool true))] := by
  refine Sound.of_body tt_ok ent_ok Tryz.func3 rfl ?_
  rintro ar har Γ hΓ args k ⟨t, hargs, hto, hft, hk⟩
  have throw : ∃ (tty tch tno tga : Int) (tpr tti tca tto tva tbc tv tr ts : List Value) (tcr : Bool) (tD tsd tA tsa tB tsb tU tsu : List (List PS)), t.row = [.c (.v (.int .i64 tty)), .c (.v (.int .u64 tch)), .c (.v (.int .u64 tno)), .r 4 tpr, .r 4 tti, .r 4 tca, .c (.v (.int .u64 tga)), .c (.v (.bool tcr)), .r 20 tto, .r 4 tva, .c (.sl tD tsd), .c (.sl tA tsa), .r 4 tbc, .c (.sl tB tsb), .c (.sl tU tsu), .r 4 tv, .r 4 tr, .r 4 ts] ∧ tno = (t.no : Int) := ⟨_, _, _, _, _, _, _, _, _, _, _, _, _, _, _, _, _, _, _, _, _, _, rfl, rfl⟩
  obtain ⟨tty, tch, tno, tga, tpr, tti, tca, tto, tva, tbc, tv, tr, ts, tcr, tD, tsd, tA, tsa, tB, tsb, tU, tsu, trow, thno⟩ := throw
  have lhrow : ∃ (lty lch lno lga : Int) (lpr lti lca lto lva lbc lv lr ls : List Value) (lcr : Bool) (lD lsd lA lsa lB lsb lU lsu : List (List PS)), t.lent.row = [.c (.v (.int .i64 lty)), .c (.v (.int .u64 lch)), .c (.v (.int .u64 lno)), .r 4 lpr, .r 4 lti, .r 4 lca, .c (.v (.int .u64 lga)), .c (.v (.bool lcr)), .r 20 lto, .r 4 lva, .c (.sl lD lsd), .c (.sl lA lsa), .r 4 lbc, .c (.sl lB lsb), .c (.sl lU lsu), .r 4 lv, .r 4 lr, .r 4 ls] := ⟨_, _, _, _, _, _, _, _, _, _, _, _, _, _, _, _, _, _, _, _, _, _, rfl⟩
  obtain ⟨lty, lch, lno, lga, lpr, lti, lca, lto, lva, lbc, lv, lr, ls, lcr, lD, lsd, lA, lsa, lB, lsb, lU, lsu, lrow⟩ := lhrow
  have hlo := lent_ok hto
  have hlf := lentR_fit hft
  obtain ⟨e, hee⟩ : ∃ e, e = (encR t).2 := ⟨_, rfl⟩
  obtain ⟨T, hT⟩ : ∃ T, T = (encR t).1 := ⟨_, rfl⟩
  obtain ⟨D, hD⟩ : ∃ D, D = T.map b8 := ⟨_, rfl⟩
  have hDl : ar.len D = (T.length : Int) := by rw [lenIs har, hD, List.length_map]
  have hen : encR t = (T, e) := by rw [hT, hee]
  have hTb : bytesOk T := by rw [hT]; exact enc_byt hto hft
  obtain ⟨H, hH⟩ : ∃ H, H = u8s (hashR t) := ⟨_, rfl⟩
  have hHl : hashR t.lent = hashR t := by unfold hashR; rw [lentR_enc]
  have callV : ∀ (Γ : Ctx) (d' : Nat) (k : List PR → Prop) (R : Prop), Γ = ctx Tryz.prog d' → k [.s (.v (.bool true))] → Γ.g 6 [.s (.v (.int .u64 tno))] k ∨ R := fun Γ d' k R hΓ hk => call_by hΓ lives15_sound ⟨t.no, by rw [thno], hto.no, hk⟩
  have callW : ∀ (Γ : Ctx) (d' : Nat) (k : List PR → Prop) (R : Prop), Γ = ctx Tryz.prog d' → k [.a [.c (.v (.int .i64 lty)), .c (.v (.int .u64 lch)), .c (.v (.int .u64 lno)), .r 4 lpr, .r 4 lti, .r 4 lca, .c (.v (.int .u64 lga)), .c (.v (.bool lcr)), .r 20 lto, .r 4 lva, .c (.sl lD lsd), .c (.sl lA lsa), .r 4 lbc, .c (.sl lB lsb), .c (.sl lU lsu), .r 4 lv, .r 4 lr, .r 4 ls]] → Γ.g 8 [.a [.c (.v (.int .i64 tty)), .c (.v (.int .u64 tch)), .c (.v (.int .u64 tno)), .r 4 tpr, .r 4 tti, .r 4 tca, .c (.v (.int .u64 tga)), .c (.v (.bool tcr)), .r 20 tto, .r 4 tva, .c (.sl tD tsd), .c (.sl tA tsa), .r 4 tbc, .c (.sl tB tsb), .c (.sl tU tsu), .r 4 tv, .r 4 tr, .r 4 ts]] k ∨ R := fun Γ d' k R hΓ hk => call_by hΓ twin15_sound ⟨t, by rw [trow], hft.small, by rw [lrow]; exact hk⟩
  have callE : ∀ (Γ : Ctx) (d' : Nat) (k : List PR → Prop) (R : Prop), Γ = ctx Tryz.prog d' → k [.s (.sl D []), .s (.v (.int .i64 e))] → Γ.g 9 [.a [.c (.v (.int .i64 lty)), .c (.v (.int .u64 lch)), .c (.v (.int .u64 lno)), .r 4 lpr, .r 4 lti, .r 4 lca, .c (.v (.int .u64 lga)), .c (.v (.bool lcr)), .r 20 lto, .r 4 lva, .c (.sl lD lsd), .c (.sl lA lsa), .r 4 lbc, .c (.sl lB lsb), .c (.sl lU lsu), .r 4 lv, .r 4 lr, .r 4 ls]] k ∨ R := fun Γ d' k R hΓ hk => call_by hΓ encode15_sound ⟨t.lent, by rw [lrow], hlo, hlf, by rw [lentR_enc, hen, hD] at *; exact hk⟩
  have callC : ∀ (Γ : Ctx) (d' : Nat) (k : List PR → Prop) (R : Prop), Γ = ctx Tryz.prog d' → k [.s (.v (.int .i64 e))] → Γ.g 7 [.a [.c (.v (.int .i64 lty)), .c (.v (.int .u64 lch)), .c (.v (.int .u64 lno)), .r 4 lpr, .r 4 lti, .r 4 lca, .c (.v (.int .u64 lga)), .c (.v (.bool lcr)), .r 20 lto, .r 4 lva, .c (.sl lD lsd), .c (.sl lA lsa), .r 4 lbc, .c (.sl lB lsb), .c (.sl lU lsu), .r 4 lv, .r 4 lr, .r 4 ls]] k ∨ R := fun Γ d' k R hΓ hk => call_by hΓ check15_sound ⟨t.lent, by rw [lrow], hlo, hlf, by rw [lentR_enc, hen] at *; exact hk⟩
  have callH : ∀ (Γ : Ctx) (d' : Nat) (k : List PR → Prop) (R : Prop), Γ = ctx Tryz.prog d' → k [.a [.r 32 H], .s (.v (.int .i64 e))] → Γ.g 10 [.a [.c (.v (.int .i64 lty)), .c (.v (.int .u64 lch)), .c (.v (.int .u64 lno)), .r 4 lpr, .r 4 lti, .r 4 lca, .c (.v (.int .u64 lga)), .c (.v (.bool lcr)), .r 20 lto, .r 4 lva, .c (.sl lD lsd), .c (.sl lA lsa), .r 4 lbc, .c (.sl lB lsb), .c (.sl lU lsu), .r 4 lv, .r 4 lr, .r 4 ls]] k ∨ R := fun Γ d' k R hΓ hk => call_by hΓ hash15_sound ⟨t.lent, by rw [lrow], hlo, hlf, by rw [hHl, ← hH, lentR_enc, hen]; exact hk⟩
  have n1 : ar.nb true = false := by rw [har]; rfl
  have n00 : ar.cb .neq 0 0 = false := dNne har rfl
  have e00 : ar.cb .eql 0 0 = true := dEq har rfl
  rw [trow] at hargs
  by_cases he : e = 0
  case neg =>
    have ne0 : ar.cb .neq e 0 = true := dNe har he
    have eee : ar.cb .eql e e = true := dEq har rfl
    have hTn : T = [] := by rw [hT]; exact encR_none (by rw [← hee]; exact he)
    have hDn : ar.cb .eql (ar.len D) 0 = true := dEq har (by rw [hDl, hTn]; rfl)
    have hHn : ar.eqv H [.int .u8 0, .int .u8 0, .int .u8 0, .int .u8 0, .int .u8 0, .int .u8 0, .int .u8 0, .int .u8 0, .int .u8 0, .int .u8 0, .int .u8 0, .int .u8 0, .int .u8 0, .int .u8 0, .int .u8 0, .int .u8 0, .int .u8 0, .int .u8 0, .int .u8 0, .int .u8 0, .int .u8 0, .int .u8 0, .int .u8 0, .int .u8 0, .int .u8 0, .int .u8 0, .int .u8 0, .int .u8 0, .int .u8 0, .int .u8 0, .int .u8 0, .int .u8 0] = true := by
      rw [eqvIs har, hH]; unfold hashR; rw [hen, if_neg he]; rfl
    have hHi : ints .u8 H ∧ ints .u8 [.int .u8 0, .int .u8 0, .int .u8 0, .int .u8 0, .int .u8 0, .int .u8 0, .int .u8 0, .int .u8 0, .int .u8 0, .int .u8 0, .int .u8 0, .int .u8 0, .int .u8 0, .int .u8 0, .int .u8 0, .int .u8 0, .int .u8 0, .int .u8 0, .int .u8 0, .int .u8 0, .int .u8 0, .int .u8 0, .int .u8 0, .int .u8 0, .int .u8 0, .int .u8 0, .int .u8 0, .int .u8 0, .int .u8 0, .int .u8 0, .int .u8 0, .int .u8 0] := by
      refine ⟨by rw [hH]; exact ints_u8s _, ?_⟩
      exact ints_u8s (List.replicate 32 0)
    clear hen hee hT hHl
    subst hargs
    conv => cbv
    refine callV _ _ _ _ hΓ ?_
    conv => cbv
    refine onF n1 ?_
    conv => cbv
    refine callW _ _ _ _ hΓ ?_
    conv => cbv
    refine callC _ _ _ _ hΓ ?_
    conv => cbv
    refine callW _ _ _ _ hΓ ?_
    conv => cbv
    refine callE _ _ _ _ hΓ ?_
    conv => cbv
    refine callW _ _ _ _ hΓ ?_
    conv => cbv
    refine callH _ _ _ _ hΓ ?_
    conv => cbv
    refine onT ne0 ?_
    conv => cbv
    refine onT eee ?_
    conv => cbv
    refine onT eee ?_
    conv => cbv
    refine onT hDn ?_
    conv => cbv
    have hke : k [.s (.v (.bool (ar.eqv H [.int .u8 0, .int .u8 0, .int .u8 0, .int .u8 0, .int .u8 0, .int .u8 0, .int .u8 0, .int .u8 0, .int .u8 0, .int .u8 0, .int .u8 0, .int .u8 0, .int .u8 0, .int .u8 0, .int .u8 0, .int .u8 0, .int .u8 0, .int .u8 0, .int .u8 0, .int .u8 0, .int .u8 0, .int .u8 0, .int .u8 0, .int .u8 0, .int .u8 0, .int .u8 0, .int .u8 0, .int .u8 0, .int .u8 0, .int .u8 0, .int .u8 0, .int .u8 0])))] := by rw [hHn]; exact hk
    exact ⟨fun _ => hHi, hke⟩
  case pos =>
    subst he
    obtain ⟨hT1, hT2⟩ := enc_short (t := t) (by rw [← hee])
    rw [← hT] at hT1 hT2
    have g1 : ar.cb .gtr (ar.len D) 0 = true := dGt har (by omega)
    have g2 : ar.cb .leq (ar.len D) 16777216 = true := by rw [cIs har, hDl]; simp [intC]; omega
    have hHT : H = u8s (kec T) := by rw [hH]; unfold hashR; rw [hen]; rfl
    have hHH : ar.eqv H H = true := by rw [eqvIs har, hHT, eqVals_u8s]; simp
    have hHi : ints .u8 H ∧ ints .u8 H := by rw [hHT]; exact ⟨ints_u8s _, ints_u8s _⟩
    obtain ⟨u, hdu, hcu⟩ := enc_dec hto hft (by rw [← hee])
    rw [← hT] at hdu
    obtain ⟨huo, hul⟩ := decD_ok (n := 2 ^ 26) hTb (by omega) hdu
    have uhrow : ∃ (uty uch uno uga : Int) (upr uti uca uto uva ubc uv ur us : List Value) (ucr : Bool) (uD usd uA usa uB usb uU usu : List (List PS)), u.row = [.c (.v (.int .i64 uty)), .c (.v (.int .u64 uch)), .c (.v (.int .u64 uno)), .r 4 upr, .r 4 uti, .r 4 uca, .c (.v (.int .u64 uga)), .c (.v (.bool ucr)), .r 20 uto, .r 4 uva, .c (.sl uD usd), .c (.sl uA usa), .r 4 ubc, .c (.sl uB usb), .c (.sl uU usu), .r 4 uv, .r 4 ur, .r 4 us] := ⟨_, _, _, _, _, _, _, _, _, _, _, _, _, _, _, _, _, _, _, _, _, _, rfl⟩
    obtain ⟨uty, uch, uno, uga, upr, uti, uca, uto, uva, ubc, uv, ur, us, ucr, uD, usd, uA, usa, uB, usb, uU, usu, urow⟩ := uhrow
    have callO : ∀ (Γ : Ctx) (d' : Nat) (k : List PR → Prop) (R : Prop), Γ = ctx Tryz.prog d' → k [.s (.sl D [])] → Γ.g 12 [.s (.sl D [])] k ∨ R := fun Γ d' k R hΓ hk => call_by hΓ copied15_sound ⟨T, [], by rw [hD], by omega, by rw [← hD]; exact hk⟩
    have callD : ∀ (Γ : Ctx) (d' : Nat) (k : List PR → Prop) (R : Prop), Γ = ctx Tryz.prog d' → k [.a [.c (.v (.int .i64 uty)), .c (.v (.int .u64 uch)), .c (.v (.int .u64 uno)), .r 4 upr, .r 4 uti, .r 4 uca, .c (.v (.int .u64 uga)), .c (.v (.bool ucr)), .r 20 uto, .r 4 uva, .c (.sl uD usd), .c (.sl uA usa), .r 4 ubc, .c (.sl uB usb), .c (.sl uU usu), .r 4 uv, .r 4 ur, .r 4 us], .s (.v (.int .i64 0))] → Γ.g 11 [.s (.sl D [])] k ∨ R := fun Γ d' k R hΓ hk => call_by hΓ decode15_sound ⟨T, [], by rw [hD], hTb, by omega, (by intro z hz; cases hz), by rw [hdu, decP, urow]; exact hk⟩
    have callS : ∀ (Γ : Ctx) (d' : Nat) (k : List PR → Prop), Γ = ctx Tryz.prog d' → k [.s (.v (.bool true))] → Γ.g 13 [.a [.c (.v (.int .i64 tty)), .c (.v (.int .u64 tch)), .c (.v (.int .u64 tno)), .r 4 tpr, .r 4 tti, .r 4 tca, .c (.v (.int .u64 tga)), .c (.v (.bool tcr)), .r 20 tto, .r 4 tva, .c (.sl tD tsd), .c (.sl tA tsa), .r 4 tbc, .c (.sl tB tsb), .c (.sl tU tsu), .r 4 tv, .r 4 tr, .r 4 ts], .a [.c (.v (.int .i64 uty)), .c (.v (.int .u64 uch)), .c (.v (.int .u64 uno)), .r 4 upr, .r 4 uti, .r 4 uca, .c (.v (.int .u64 uga)), .c (.v (.bool ucr)), .r 20 uto, .r 4 uva, .c (.sl uD usd), .c (.sl uA usa), .r 4 ubc, .c (.sl uB usb), .c (.sl uU usu), .r 4 uv, .r 4 ur, .r 4 us]] k := fun Γ d' k hΓ hk => call_by' hΓ txSame_sound ⟨t, u, true, by rw [trow, urow], hto, huo, hft.small, by simp [hcu], hk⟩
    have callK : ∀ (Γ : Ctx) (d' : Nat) (k : List PR → Prop), Γ = ctx Tryz.prog d' → k [.a [.r 32 H]] → Γ.g 14 [.s (.sl [[.c (.sl D [])]] [])] k := fun Γ d' k hΓ hk => call_by' hΓ sum_sound ⟨[⟨T, []⟩], [], by rw [hD]; rfl, by simp, by simp only [join, List.append_nil]; omega, by simp only [join, List.append_nil]; exact hTb, by simp, by simp only [join, List.append_nil]; rw [← hHT]; exact hk⟩
    clear hen hee hT hHl
    subst hargs
    conv => cbv
    refine callV _ _ _ _ hΓ ?_
    conv => cbv
    refine onF n1 ?_
    conv => cbv
    refine callW _ _ _ _ hΓ ?_
    conv => cbv
    refine callC _ _ _ _ hΓ ?_
    conv => cbv
    refine callW _ _ _ _ hΓ ?_
    conv => cbv
    refine callE _ _ _ _ hΓ ?_
    conv => cbv
    refine callW _ _ _ _ hΓ ?_
    conv => cbv
    refine callH _ _ _ _ hΓ ?_
    conv => cbv
    refine onF n00 ?_
    conv => cbv
    refine callO _ _ _ _ hΓ ?_
    conv => cbv
    refine callD _ _ _ _ hΓ ?_
    conv => cbv
    refine ⟨by rw [har]; kernel_rfl, ?_⟩
    refine onT e00 ?_
    conv => cbv
    refine onT e00 ?_
    conv => cbv
    refine onT e00 ?_
    conv => cbv
    refine callS _ _ _ hΓ ?_
    conv => cbv
    refine onT rfl ?_
    conv => cbv
    refine onT g1 ?_
    conv => cbv
    refine onT g2 ?_
    conv => cbv
    refine callK _ _ _ hΓ ?_
    conv => cbv
    have hke : k [.s (.v (.bool (ar.eqv H H)))] := by rw [hHH]; exact hk
    exact ⟨fun _ => hHi, hke⟩
end Go.Eng
