import Derived.Test.YtgihmigiecfmaaaDoorGB
import Derived.Test.YtgihmigiecfmaaaDoorQA
import Derived.Test.YtgihmigiecfmaaaDoorEA
namespace Go.Eng
open Go Go.Proofs
set_option maxRecDepth 100000
set_option maxHeartbeats 8000000
set_option linter.unusedVariables false
theorem lentL_fit {t : Tx} (h : t.fit) : t.lent.fit := ⟨h.d, by
 have e : esIts t.lent.ac = esIts t.ac := by
  show esIts (t.ac.map Ent.lent) = _
  unfold esIts; rw [List.map_map]; rfl
 rw [e]; exact h.ac, h.bl, h.au⟩
theorem blen3 {n : Nat} (h : n < 16777216) : blen n ≤ 3 := by
 have : bl n ≤ 24 := by
  unfold bl; split
  ·omega
  ·have := (Nat.log2_lt (by assumption)).2 (show n < 2 ^ 24 from h); omega
 unfold blen; omega
theorem hd_short {f : Int} {n : Nat} (h : n < 16777216) : 1 ≤ (hd f n).length ∧ (hd f n).length ≤ 4 := by
 have := blen3 h
 unfold hd; split
 ·simp
 ·rw [List.length_cons, be_length]; omega
theorem sz_num (n : Nat) : 1 ≤ sz (numIt n) := by
 have : ∀ d : List Int, 1 ≤ sz (It.txt d) := fun d => by
  show 1 ≤ sz (.mk false d [] [] [])
  have hp : ∀ m : Nat, 1 ≤ (hd 128 m).length := fun m => by unfold hd; split <;> simp
  unfold sz
  have := hp d.length
  split <;> (try split) <;> (try simp) <;> omega
 exact this _
theorem err_sub {a b : List It} (h3 : 3 ≤ szs b) (h : errOf (It.lst (a ++ b)) = 0) : errOf (It.lst a) = 0 := by
 unfold errOf at h ⊢
 have e1 : okS (It.lst (a ++ b)) = okSs (a ++ b) := by simp [It.lst, okS]
 have e2 : okS (It.lst a) = okSs a := by simp [It.lst, okS]
 have e3 : dep (It.lst (a ++ b)) = depths (a ++ b) + 1 := rfl
 have e4 : dep (It.lst a) = depths a + 1 := rfl
 have e5 : sz (It.lst (a ++ b)) = (hd 192 (szs (a ++ b))).length + szs (a ++ b) := rfl
 have e6 : sz (It.lst a) = (hd 192 (szs a)).length + szs a := rfl
 rw [okSs_append] at e1
 rw [deps_append] at e3
 rw [szs_append] at e5
 rw [e1, e3, e5] at h
 rw [e2, e4, e6]
 split at h
 ·rename_i hok
  have hok : okSs a = true := by
   cases h : okSs a
   ·rw [h] at hok; cases hok
   ·rfl
  rw [if_pos hok]
  split at h
  ·cases h
  ·rw [if_neg (by omega)]
   split at h
   ·cases h
   ·have hs : szs a < 16777216 := by omega
    have h4 := (hd_short (f := 192) hs).2
    have h1 : 1 ≤ (hd 192 (szs a + szs b)).length := by unfold hd; split <;> simp
    rw [if_neg (by omega)]
 ·cases h
def fs0 (ty : Int) : List Int := (txFs ty).take ((txFs ty).length - 3)
theorem fs0_spec (ty : Int) : txFs ty = fs0 ty ++ [13, 14, 15] := by
 unfold fs0 txFs
 (repeat' split) <;> rfl
theorem itsL_tail (t : Tx) : itsL t (txFs t.ty) = itsL t (fs0 t.ty) ++ [numIt t.v, numIt t.r, numIt t.s] := by
 rw [fs0_spec]
 simp only [itsL, List.map_append, List.map_cons, List.map_nil]
 rfl
theorem listed {t : Tx} (h : (encR t).2 = 0) : draftE t = 0 ∧ fieldsR t = (itsL t (fs0 t.ty), 0) ∧ errOf (It.lst (itsL t (fs0 t.ty) ++ [numIt t.v, numIt t.r, numIt t.s])) = 0 ∧
  (encR t).1 = preB t.ty ++ enc (It.lst (itsL t (fs0 t.ty) ++ [numIt t.v, numIt t.r, numIt t.s])) := by
 unfold encR at h ⊢
 by_cases hd : draftE t ≠ 0
 ·rw [if_pos hd] at h; exact absurd h hd
 rw [if_neg hd] at h ⊢
 by_cases hs : signB t = false
 ·rw [if_pos hs] at h; cases h
 rw [if_neg hs] at h ⊢
 by_cases hi : (itsR t (txFs t.ty)).2 ≠ 0
 ·rw [if_pos hi] at h; exact absurd h hi
 rw [if_neg hi] at h ⊢
 have hi : (itsR t (txFs t.ty)).2 = 0 := by omega
 obtain ⟨h1, h2, h3⟩ := itsR_ok hi
 split at h
 ·cases h
 rename_i hl
 rw [if_neg hl, h1]
 rw [itsL_tail] at h2 ⊢
 have he := err_sub (b := [numIt t.v, numIt t.r, numIt t.s]) (by
  have := sz_num t.v
  have := sz_num t.r
  have := sz_num t.s
  simp only [szs]; omega) h2
 refine ⟨by omega, ?_, h2, rfl⟩
 unfold fieldsR
 rw [if_neg hd]
 show itsR t (fs0 t.ty) = _
 unfold itsR
 have hnone : ((fs0 t.ty).find? fun f => decide ((itemP t f).2 ≠ 0)) = none := List.find?_eq_none.2 fun y hy => by
  have := h3 y (by rw [fs0_spec]; exact List.mem_append_left _ hy)
  simp [this]
 rw [hnone]
 simp only
 rw [if_pos he]
theorem fieldsR_core (t : Tx) : fieldsR t.core = fieldsR t := by
 unfold fieldsR
 rw [draftE_core, show t.core.ty = t.ty from rfl, itsR_core]
theorem fieldsR_same {t u : Tx} (h : t.core = u.core) : fieldsR t = fieldsR u := by rw [← fieldsR_core, h, fieldsR_core]
theorem enc_head {its : List It} (hb : (encs its).length < 16777216) : ∃ x l, enc (It.lst its) = x :: l ∧ 192 ≤ x ∧ x ≤ 255 := by
 have h3 := blen3 hb
 show ∃ x l, hd 192 (encs its).length ++ encs its = x :: l ∧ _
 unfold hd
 split
 ·rename_i hn
  refine ⟨_, _, rfl, ?_, ?_⟩ <;> omega
 ·refine ⟨_, _, rfl, ?_, ?_⟩ <;> omega
theorem txListed_sound : Sound Tryd.prog 4 fun args k => ∃ (t : Tx), args = [.a t.row] ∧ t.ok ∧ t.fit ∧ k [.s (.v (.bool true))] := by
 refine Sound.of_body tt_ok ent_ok Tryd.func4 rfl ?_
 rintro ar har Γ hΓ args k ⟨t, hargs, hto, hft, hk⟩
 have throw : ∃ (tty tch tno tga : Int) (tpr tti tca tto tva tbc tv tr ts : List Value) (tcr : Bool) (tD tsd tA tsa tB tsb tU tsu : List (List PS)), t.row = [.c (.v (.int .i64 tty)), .c (.v (.int .u64 tch)), .c (.v (.int .u64 tno)), .r 4 tpr, .r 4 tti, .r 4 tca, .c (.v (.int .u64 tga)), .c (.v (.bool tcr)), .r 20 tto, .r 4 tva, .c (.sl tD tsd), .c (.sl tA tsa), .r 4 tbc, .c (.sl tB tsb), .c (.sl tU tsu), .r 4 tv, .r 4 tr, .r 4 ts] ∧ tty = t.ty ∧ tno = (t.no : Int) ∧ tv = w4 t.v ∧ tr = w4 t.r ∧ ts = w4 t.s := ⟨_, _, _, _, _, _, _, _, _, _, _, _, _, _, _, _, _, _, _, _, _, _, rfl, rfl, rfl, rfl, rfl, rfl⟩
 obtain ⟨tty, tch, tno, tga, tpr, tti, tca, tto, tva, tbc, tv, tr, ts, tcr, tD, tsd, tA, tsa, tB, tsb, tU, tsu, trow, thty, thno, thv, thr, ths⟩ := throw
 have lhrow : ∃ (lty lch lno lga : Int) (lpr lti lca lto lva lbc lv lr ls : List Value) (lcr : Bool) (lD lsd lA lsa lB lsb lU lsu : List (List PS)), t.lent.row = [.c (.v (.int .i64 lty)), .c (.v (.int .u64 lch)), .c (.v (.int .u64 lno)), .r 4 lpr, .r 4 lti, .r 4 lca, .c (.v (.int .u64 lga)), .c (.v (.bool lcr)), .r 20 lto, .r 4 lva, .c (.sl lD lsd), .c (.sl lA lsa), .r 4 lbc, .c (.sl lB lsb), .c (.sl lU lsu), .r 4 lv, .r 4 lr, .r 4 ls] := ⟨_, _, _, _, _, _, _, _, _, _, _, _, _, _, _, _, _, _, _, _, _, _, rfl⟩
 obtain ⟨lty, lch, lno, lga, lpr, lti, lca, lto, lva, lbc, lv, lr, ls, lcr, lD, lsd, lA, lsa, lB, lsb, lU, lsu, lrow⟩ := lhrow
 have hlo := lent_ok hto
 have hlf := lentL_fit hft
 have hcore : encR t.lent = encR t := encR_same (lent_core t)
 obtain ⟨e, hee⟩ : ∃ e, e = (encR t).2 := ⟨_, rfl⟩
 obtain ⟨T, hT⟩ : ∃ T, T = (encR t).1 := ⟨_, rfl⟩
 obtain ⟨D, hD⟩ : ∃ D, D = T.map b8 := ⟨_, rfl⟩
 have hen : encR t = (T, e) := by rw [hT, hee]
 have hfl : fieldsR t.lent = fieldsR t := fieldsR_same (lent_core t)
 obtain ⟨its, hits⟩ : ∃ x, x = (fieldsR t).1 := ⟨_, rfl⟩
 obtain ⟨fe, hfe⟩ : ∃ x, x = (fieldsR t).2 := ⟨_, rfl⟩
 obtain ⟨I, hI⟩ : ∃ x, x = orowsOf its := ⟨_, rfl⟩
 have callV : ∀ (Γ : Ctx) (d' : Nat) (k : List PR → Prop) (R : Prop), Γ = ctx Tryd.prog d' → k [.s (.v (.bool true))] → Γ.g 5 [.s (.v (.int .u64 tno))] k ∨ R := fun Γ d' k R hΓ hk => call_by hΓ lives15_sound ⟨t.no, by rw [thno], hto.no, hk⟩
 have callW : ∀ (Γ : Ctx) (d' : Nat) (k : List PR → Prop) (R : Prop), Γ = ctx Tryd.prog d' → k [.a [.c (.v (.int .i64 lty)), .c (.v (.int .u64 lch)), .c (.v (.int .u64 lno)), .r 4 lpr, .r 4 lti, .r 4 lca, .c (.v (.int .u64 lga)), .c (.v (.bool lcr)), .r 20 lto, .r 4 lva, .c (.sl lD lsd), .c (.sl lA lsa), .r 4 lbc, .c (.sl lB lsb), .c (.sl lU lsu), .r 4 lv, .r 4 lr, .r 4 ls]] → Γ.g 7 [.a [.c (.v (.int .i64 tty)), .c (.v (.int .u64 tch)), .c (.v (.int .u64 tno)), .r 4 tpr, .r 4 tti, .r 4 tca, .c (.v (.int .u64 tga)), .c (.v (.bool tcr)), .r 20 tto, .r 4 tva, .c (.sl tD tsd), .c (.sl tA tsa), .r 4 tbc, .c (.sl tB tsb), .c (.sl tU tsu), .r 4 tv, .r 4 tr, .r 4 ts]] k ∨ R := fun Γ d' k R hΓ hk => call_by hΓ twin15_sound ⟨t, by rw [trow], hft.small, by rw [lrow]; exact hk⟩
 have callE : ∀ (Γ : Ctx) (d' : Nat) (k : List PR → Prop) (R : Prop), Γ = ctx Tryd.prog d' → k [.s (.sl D []), .s (.v (.int .i64 e))] → Γ.g 6 [.a [.c (.v (.int .i64 lty)), .c (.v (.int .u64 lch)), .c (.v (.int .u64 lno)), .r 4 lpr, .r 4 lti, .r 4 lca, .c (.v (.int .u64 lga)), .c (.v (.bool lcr)), .r 20 lto, .r 4 lva, .c (.sl lD lsd), .c (.sl lA lsa), .r 4 lbc, .c (.sl lB lsb), .c (.sl lU lsu), .r 4 lv, .r 4 lr, .r 4 ls]] k ∨ R := fun Γ d' k R hΓ hk => call_by hΓ encode15_sound ⟨t.lent, by rw [lrow], hlo, hlf, by rw [hcore, hen, hD] at *; exact hk⟩
 have callF : ∀ (Γ : Ctx) (d' : Nat) (k : List PR → Prop) (R : Prop), Γ = ctx Tryd.prog d' → k [.s (oI I), .s (.v (.int .i64 fe))] → Γ.g 11 [.a [.c (.v (.int .i64 lty)), .c (.v (.int .u64 lch)), .c (.v (.int .u64 lno)), .r 4 lpr, .r 4 lti, .r 4 lca, .c (.v (.int .u64 lga)), .c (.v (.bool lcr)), .r 20 lto, .r 4 lva, .c (.sl lD lsd), .c (.sl lA lsa), .r 4 lbc, .c (.sl lB lsb), .c (.sl lU lsu), .r 4 lv, .r 4 lr, .r 4 ls]] k ∨ R := fun Γ d' k R hΓ hk => call_by hΓ fields_own ⟨t.lent, by rw [lrow], hlo, hlf, by rw [hfl, ← hits, ← hfe, ← hI]; exact hk⟩
 have callN : ∀ (n : Nat) (x : List Value) (D : List (List PS)) (Γ : Ctx) (d' : Nat) (k : List PR → Prop), Γ = ctx Tryd.prog d' → x = w4 n → n < M256 → D = (numB n).map b8 → k [.a (rtx D)] → Γ.g 12 [.a [.r 4 x]] k := fun n x D Γ d' k hΓ hx hn hD hk => call_by' hΓ rNumber_sound ⟨n, by unfold pw; rw [hx], hn, by rw [hD] at hk; exact hk⟩
 obtain ⟨Nv, hNv⟩ : ∃ x, x = (numB t.v).map b8 := ⟨_, rfl⟩
 obtain ⟨Nr, hNr⟩ : ∃ x, x = (numB t.r).map b8 := ⟨_, rfl⟩
 obtain ⟨Ns, hNs⟩ : ∃ x, x = (numB t.s).map b8 := ⟨_, rfl⟩
 have n1 : ar.nb true = false := by rw [har]; rfl
 have n2 : ar.nb false = true := by rw [har]; rfl
 have n00 : ar.cb .neq 0 0 = false := dNne har rfl
 have f0 := frz0 har
 obtain ⟨its3, hits3⟩ : ∃ x, x = its ++ [numIt t.v, numIt t.r, numIt t.s] := ⟨_, rfl⟩
 obtain ⟨S, hS⟩ : ∃ x, x = enc (It.lst its3) := ⟨_, rfl⟩
 obtain ⟨W, hW⟩ : ∃ x, x = S.map b8 := ⟨_, rfl⟩
 obtain ⟨J, hJ⟩ : ∃ x, x = orowsOf its3 := ⟨_, rfl⟩
 have facts : e = 0 → fe = 0 ∧ errOf (It.lst its3) = 0 ∧ T = preB t.ty ++ S ∧ strips its3 = its3 ∧ bulks its3 ≤ 3758096398 ∧ depths its3 ≤ 3 ∧ strips its = its ∧ its.length ≤ 20 ∧ T.length ≤ 16777216 := fun h0 => by
  obtain ⟨k0, k1, k2, k3⟩ := listed (t := t) (by rw [hen]; exact h0)
  have hfe0 : fe = 0 := by rw [hfe, k1]
  have hits2 : its = itsL t (fs0 t.ty) := by rw [hits, k1]
  rw [← hits2, ← hits3] at k2 k3
  rw [hen] at k3
  rw [← hS] at k3
  have k3 : T = preB t.ty ++ S := k3
  obtain ⟨g1, g2, g3⟩ := itsL_facts hto hft (txFs t.ty)
  rw [itsL_tail, ← hits2, ← hits3] at g1 g2 g3
  have g4 : (txFs t.ty).length * 268435457 ≤ 14 * 268435457 := Nat.mul_le_mul_right _ (txFs_len t.ty)
  have hst : strips its = its := by
   have := g1
   rw [hits3, strips_append] at this
   have h2 : strips [numIt t.v, numIt t.r, numIt t.s] = [numIt t.v, numIt t.r, numIt t.s] := rfl
   rw [h2] at this
   exact List.append_cancel_right this
  have hil : its.length ≤ 20 := by rw [hits2, itsL, List.length_map, fs0, List.length_take]; have := txFs_len t.ty; omega
  have hTl : T.length ≤ 16777216 := by have := (enc_short (t := t) (by rw [hen]; exact h0)).1; rw [hen] at this; exact this
  exact ⟨hfe0, k2, k3, g1, by omega, g3, hst, hil, hTl⟩
 have fW : ar.frz W = W := by rw [hW, frzB har]
 have callL : ∀ (C s : List (List PS)) (Γ : Ctx) (d' : Nat) (k : List PR → Prop) (R : Prop), Γ = ctx Tryd.prog d' → e = 0 → C = ar.frz (ar.app I [rtx Nv, rtx Nr, rtx Ns]) → k [.ao (olx J)] → Γ.g 14 [.s (.sl C s)] (fun rs => shutRs rs ∧ k rs) ∨ R := fun C s Γ d' k R hΓ h0 hC hk => by
  obtain ⟨hfe0, k2, k3, g1, g2, g3, hst, hil, hTl⟩ := facts h0
  exact call_by hΓ list_own ⟨its3, s, by
   rw [hC, hits3, rowsOf_append, appIs har, har]
   show [PR.s (.sl (frzX (I ++ [rtx Nv, rtx Nr, rtx Ns])) s)] = _
   rw [frzX_map, List.map_append, ← frzX_map, hI, orows_frz, hst, hNv, hNr, hNs]; rfl, by omega, by rw [← hJ]; exact ⟨by rw [hJ]; exact olx_shut its3, hk⟩⟩
 have callX : ∀ (Γ : Ctx) (d' : Nat) (k : List PR → Prop) (R : Prop), Γ = ctx Tryd.prog d' → e = 0 → k [.s (oB W), .s (.v (.int .i64 0))] → Γ.g 13 [.a [.c (.v (.bool true)), .c (.sl (ar.frz []) (ar.frz [])), .c (.sl (ar.frz J) (ar.frz []))]] (fun rs => shutRs rs ∧ k rs) ∨ R := fun Γ d' k R hΓ h0 hk => by
  obtain ⟨hfe0, k2, k3, g1, g2, g3, hst, hil, hTl⟩ := facts h0
  have fJ : ar.frz J = rowsOf its3 := by rw [hJ, frzO har, g1]
  exact call_by hΓ encodeT_own ⟨It.lst its3, by rw [f0, fJ]; rfl, by simp only [It.lst, It.bulk, List.length_nil]; omega, by show depths its3 + 1 ≤ 4; omega, by
   rw [k2, if_pos rfl, ← hS, ← hW]
   exact ⟨⟨⟨by rw [hW]; exact shutX_b8 S, trivial⟩, trivial, trivial⟩, hk⟩⟩
 have callM : ∀ (Q : List Int) (C s s' : List (List PS)) (Γ : Ctx) (d' : Nat) (k : List PR → Prop), Γ = ctx Tryd.prog d' → Q = S → C = Q.map b8 → Q.length ≤ 16777216 → k [.s (.v (.bool true))] → Γ.g 15 [.s (.sl C s), .s (.sl (ar.frz W) s')] k := fun Q C s s' Γ d' k hΓ hQ hC hl hk => call_by' hΓ same15_sound ⟨Q, S, s, s', true, by rw [hC, fW, hW]; rfl, by omega, fun _ _ => trivial, fun _ _ => trivial, by simp [hQ], hk⟩
 have leafA : e = 0 → tty = 0 → T = S ∧ T.length ≤ 16777216 ∧ ∃ x, D[(0 : Int).toNat]? = some [.c (.v (.int .u8 x))] ∧ ar.cb .geq x 192 = true := fun h0 ht => by
  obtain ⟨hfe0, k2, k3, g1, g2, g3, hst, hil, hTl⟩ := facts h0
  have hTS : T = S := by rw [k3, preB, if_pos (by rw [← thty]; exact ht), List.nil_append]
  have hSl : S.length = (hd 192 (encs its3).length).length + (encs its3).length := by rw [hS]; show (hd 192 (encs its3).length ++ encs its3).length = _; rw [List.length_append]
  have h1 : 1 ≤ (hd 192 (encs its3).length).length := by unfold hd; split <;> simp
  obtain ⟨x, l, hx, hx1, hx2⟩ := enc_head (its := its3) (by rw [hTS] at hTl; omega)
  refine ⟨hTS, hTl, x, ?_, ?_⟩
  ·rw [hD, hTS, hS, hx]; rfl
  ·rw [har]; simp [arS, intC]; omega
 have leafB : e = 0 → tty ≠ 0 → ar.cb .eql (ar.cv .i64 tty) tty = true ∧ T = tty :: S ∧ T.length ≤ 16777216 ∧ D = [.c (.v (.int .u8 tty))] :: W ∧ ar.cb .eql (ar.len D) (ar.ib .add .i64 (ar.len W) 1) = true := fun h0 ht => by
  obtain ⟨hfe0, k2, k3, g1, g2, g3, hst, hil, hTl⟩ := facts h0
  have hTS : T = tty :: S := by rw [k3, preB, if_neg (by rw [← thty]; exact ht), ← thty]; rfl
  have hDl : ar.len D = (T.length : Int) := by rw [lenIs har, hD, List.length_map]
  have hWl : ar.len W = (S.length : Int) := by rw [lenIs har, hW, List.length_map]
  have hl : T.length = S.length + 1 := by rw [hTS]; rfl
  have hty := draft_ty (listed (t := t) (by rw [hen]; exact h0)).1
  rw [← thty] at hty
  refine ⟨?_, hTS, hTl, by rw [hD, hTS, hW]; rfl, ?_⟩
  ·rw [har]
   have : IntKind.i64.wrap tty = tty := i64Id (by omega)
   simp [arS, intC, this]
  rw [hDl, hWl, iAdd har (by omega)]
  rw [har]; simp [arS, intC]; omega
 have hs1 : e = 0 → 0 < 3 ∧ (I.length + 3) * 56 ≤ 140737488355328 ∧ ∀ y ∈ [rtx Nv, rtx Nr, rtx Ns], rlen y = 3 := fun h0 => ⟨by omega, by
  obtain ⟨hfe0, k2, k3, g1, g2, g3, hst, hil, hTl⟩ := facts h0
  rw [hI, orowsOf_length]; omega, by simp [rtx, rlen, PS.len]⟩
 rw [trow] at hargs
 subst hargs
 conv => cbv
 refine callV _ _ _ _ hΓ ?_
 conv => cbv
 refine onF n1 ?_
 conv => cbv
 refine callW _ _ _ _ hΓ ?_
 conv => cbv
 refine callE _ _ _ _ hΓ ?_
 conv => cbv
 refine ⟨fun h => ?_, fun h => ?_⟩
 ·conv => cbv
  exact hk
 have h0 := cNne har (a := e) (b := 0) h
 conv => cbv
 refine callW _ _ _ _ hΓ ?_
 conv => cbv
 refine callF _ _ _ _ hΓ ?_
 conv => cbv
 refine onF (dNne har (facts h0).1) ?_
 conv => cbv
 refine ⟨by rw [har]; kernel_rfl, ?_⟩
 conv => cbv
 refine callN t.v tv Nv _ _ _ hΓ thv hto.v hNv ?_
 conv => cbv
 refine callN t.r tr Nr _ _ _ hΓ thr hto.r hNr ?_
 conv => cbv
 refine callN t.s ts Ns _ _ _ hΓ ths hto.s hNs ?_
 conv => cbv
 refine ⟨fun _ => hs1 h0, ?_⟩
 conv => cbv
 refine callL _ _ _ _ _ _ hΓ h0 rfl ?_
 conv => cbv
 refine callX _ _ _ _ hΓ h0 ?_
 conv => cbv
 refine ⟨fun h => absurd (n00.symm.trans h) (by decide), fun _ => ?_⟩
 conv => cbv
 refine ⟨fun h => ?_, fun h => ?_⟩
 ·have g := cEq har (a := tty) (b := 0) h
  obtain ⟨hTS, hTl, x, hD0, hge⟩ := leafA h0 g
  have hk2 : k [.s (.v (.bool (ar.cb .geq x 192)))] := by rw [hge]; exact hk
  conv => cbv
  refine .inl (callM T _ _ _ _ _ _ hΓ hTS hD hTl ?_)
  conv => cbv
  refine ⟨fun _ => ?_, fun h => absurd h (by decide)⟩
  conv => cbv
  refine ⟨_, by omega, hD0, rfl, ?_⟩
  conv => cbv
  exact hk2
 ·have g := cNeq har (a := tty) (b := 0) h
  obtain ⟨hcv, hTS, hTl, hDW, hlen⟩ := leafB h0 g
  have hD0 : D[(0 : Int).toNat]? = some [.c (.v (.int .u8 tty))] := by rw [hDW]; rfl
  have hSl : S.length ≤ 16777216 := by rw [hTS, List.length_cons] at hTl; omega
  have hfrm : ar.frm D 1 = S.map b8 := by rw [frmIs har, hDW, hW]; rfl
  have s2 : (0 : Int) ≤ ((1 : Int), true).fst ∧ ((1 : Int), true).fst ≤ (D.length : Int) ∧ (∀ z ∈ D, rlen z = 1) ∧ ∀ z ∈ ([] : List (List PS)), rlen z = 1 := ⟨by decide, by show (1 : Int) ≤ _; rw [hDW, List.length_cons]; omega, by rw [hD]; exact b8_all T, by simp⟩
  conv => cbv
  refine ⟨by rw [har]; kernel_rfl, ?_⟩
  refine onT hlen ?_
  conv => cbv
  refine ⟨_, by omega, hD0, rfl, ?_⟩
  conv => cbv
  refine onT hcv ?_
  conv => cbv
  refine ⟨fun _ => s2, ?_⟩
  refine callM S (ar.frm D 1) _ _ _ _ _ hΓ rfl hfrm hSl ?_
  conv => cbv
  exact hk
end Go.Eng
