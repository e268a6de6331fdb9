/-
  TxSpoilt. Condition: the transaction's lists hold at most 2^28 nodes and bytes, what is put behind at most 2^20 bytes.
-/
import Derived.Test.YtnaafeeloicklaaDoorHA
import Derived.Test.YtnaafeeloicklaaDoorEA
namespace Go.Eng
open Go Go.Proofs
set_option maxRecDepth 100000
set_option maxHeartbeats 8000000
set_option linter.unusedVariables false

theorem lent_fit {t : Tx} (h : t.fit) : t.lent.fit := ⟨h.d, by
  have e : esIts t.lent.ac = esIts t.ac := by
    show esIts (t.ac.map Ent.lent) = _
    unfold esIts; rw [List.map_map]; rfl
  rw [e]; exact h.ac, h.bl, h.au⟩
theorem lent_enc (t : Tx) : encR t.lent = encR t := encR_same (lent_core t)

theorem dec_short {t : Tx} {T : List Int} (h : encR t = (T, 0)) (hb : bytesOk T) {m : Nat} (hm : m < T.length) : ∃ f, decD (T.take m) = .error f ∧ f ≠ 0 := by
  cases hd : decD (T.take m) with
  | error f => exact ⟨f, rfl, decD_err hd⟩
  | ok v =>
    have hv := decD_enc (fun x hx => hb x (List.mem_of_mem_take hx)) hd
    have := prefix_free hv (t := t) (r := T.drop m) (by rw [List.take_append_drop]; exact h)
    have h2 := congrArg List.length this
    rw [List.length_drop, List.length_nil] at h2
    omega
theorem dec_long {t : Tx} {T : List Int} (h : encR t = (T, 0)) (hb : bytesOk T) {q : List Int} (hq : bytesOk q) (hne : q ≠ []) : ∃ f, decD (T ++ q) = .error f ∧ f ≠ 0 := by
  cases hd : decD (T ++ q) with
  | error f => exact ⟨f, rfl, decD_err hd⟩
  | ok v => exact absurd (prefix_free h (decD_enc (bytesOk_app hb hq) hd)) hne
theorem dec_other {t v : Tx} {T d : List Int} (h : encR t = (T, 0)) (hb : bytesOk d) (hd : decD d = .ok v) (hne : d ≠ T) : v.core ≠ t.core := fun e => by
  have h1 := decD_enc hb hd
  rw [encR_same e, h] at h1
  exact hne (congrArg Prod.fst h1).symm

theorem txSpoilt_sound : Sound Tryd.prog 3 fun args k => ∃ (t : Tx) (a b : Int) (q : List Int) (sq : List (List PS)), args = [.a t.row, .s (.v (.int .i64 a)), .s (.v (.int .u8 b)), .s (.sl (q.map b8) sq)] ∧ t.ok ∧ t.fit ∧ (0 ≤ b ∧ b < 256) ∧ bytesOk q ∧ q.length ≤ 2 ^ 20 ∧ k [.s (.v (.bool true))] := by
  refine Sound.of_body tt_ok ent_ok Tryd.func3 rfl ?_
  rintro ar har Γ hΓ args k ⟨t, a, b, q, sq, hargs, hto, hft, hb, hqo, hql, hk⟩
  have throw : ∃ (tty tch tno tga : Int) (tpr tti tca tto tva tbc tv tr ts : List Value) (tcr : Bool) (tD tsd tA tsa tB tsb tU tsu : List (List PS)), t.row = [.c (.v (.int .i64 tty)), .c (.v (.int .u64 tch)), .c (.v (.int .u64 tno)), .r 4 tpr, .r 4 tti, .r 4 tca, .c (.v (.int .u64 tga)), .c (.v (.bool tcr)), .r 20 tto, .r 4 tva, .c (.sl tD tsd), .c (.sl tA tsa), .r 4 tbc, .c (.sl tB tsb), .c (.sl tU tsu), .r 4 tv, .r 4 tr, .r 4 ts] ∧ tno = (t.no : Int) := ⟨_, _, _, _, _, _, _, _, _, _, _, _, _, _, _, _, _, _, _, _, _, _, rfl, rfl⟩
  obtain ⟨tty, tch, tno, tga, tpr, tti, tca, tto, tva, tbc, tv, tr, ts, tcr, tD, tsd, tA, tsa, tB, tsb, tU, tsu, trow, thno⟩ := throw
  have lhrow : ∃ (lty lch lno lga : Int) (lpr lti lca lto lva lbc lv lr ls : List Value) (lcr : Bool) (lD lsd lA lsa lB lsb lU lsu : List (List PS)), t.lent.row = [.c (.v (.int .i64 lty)), .c (.v (.int .u64 lch)), .c (.v (.int .u64 lno)), .r 4 lpr, .r 4 lti, .r 4 lca, .c (.v (.int .u64 lga)), .c (.v (.bool lcr)), .r 20 lto, .r 4 lva, .c (.sl lD lsd), .c (.sl lA lsa), .r 4 lbc, .c (.sl lB lsb), .c (.sl lU lsu), .r 4 lv, .r 4 lr, .r 4 ls] := ⟨_, _, _, _, _, _, _, _, _, _, _, _, _, _, _, _, _, _, _, _, _, _, rfl⟩
  obtain ⟨lty, lch, lno, lga, lpr, lti, lca, lto, lva, lbc, lv, lr, ls, lcr, lD, lsd, lA, lsa, lB, lsb, lU, lsu, lrow⟩ := lhrow
  have hlo := lent_ok hto
  have hlf := lent_fit hft
  obtain ⟨Q, hQ⟩ : ∃ Q, Q = q.map b8 := ⟨_, rfl⟩
  have hQl : ar.len Q = (q.length : Int) := by rw [lenIs har, hQ, List.length_map]
  obtain ⟨e, hee⟩ : ∃ e, e = (encR t).2 := ⟨_, rfl⟩
  obtain ⟨T, hT⟩ : ∃ T, T = (encR t).1 := ⟨_, rfl⟩
  obtain ⟨D, hD⟩ : ∃ D, D = T.map b8 := ⟨_, rfl⟩
  have hDl : ar.len D = (T.length : Int) := by rw [lenIs har, hD, List.length_map]
  have hen : encR t = (T, e) := by rw [hT, hee]
  have hTb : bytesOk T := by rw [hT]; exact enc_byt hto hft
  have callV : ∀ (Γ : Ctx) (d' : Nat) (k : List PR → Prop) (R : Prop), Γ = ctx Tryd.prog d' → k [.s (.v (.bool true))] → Γ.g 7 [.s (.v (.int .u64 tno))] k ∨ R := fun Γ d' k R hΓ hk => call_by hΓ lives15_sound ⟨t.no, by rw [thno], hto.no, hk⟩
  have callW : ∀ (Γ : Ctx) (d' : Nat) (k : List PR → Prop) (R : Prop), Γ = ctx Tryd.prog d' → k [.a [.c (.v (.int .i64 lty)), .c (.v (.int .u64 lch)), .c (.v (.int .u64 lno)), .r 4 lpr, .r 4 lti, .r 4 lca, .c (.v (.int .u64 lga)), .c (.v (.bool lcr)), .r 20 lto, .r 4 lva, .c (.sl lD lsd), .c (.sl lA lsa), .r 4 lbc, .c (.sl lB lsb), .c (.sl lU lsu), .r 4 lv, .r 4 lr, .r 4 ls]] → Γ.g 9 [.a [.c (.v (.int .i64 tty)), .c (.v (.int .u64 tch)), .c (.v (.int .u64 tno)), .r 4 tpr, .r 4 tti, .r 4 tca, .c (.v (.int .u64 tga)), .c (.v (.bool tcr)), .r 20 tto, .r 4 tva, .c (.sl tD tsd), .c (.sl tA tsa), .r 4 tbc, .c (.sl tB tsb), .c (.sl tU tsu), .r 4 tv, .r 4 tr, .r 4 ts]] k ∨ R := fun Γ d' k R hΓ hk => call_by hΓ twin15_sound ⟨t, by rw [trow], hft.small, by rw [lrow]; exact hk⟩
  have callE : ∀ (Γ : Ctx) (d' : Nat) (k : List PR → Prop) (R : Prop), Γ = ctx Tryd.prog d' → k [.s (.sl D []), .s (.v (.int .i64 e))] → Γ.g 8 [.a [.c (.v (.int .i64 lty)), .c (.v (.int .u64 lch)), .c (.v (.int .u64 lno)), .r 4 lpr, .r 4 lti, .r 4 lca, .c (.v (.int .u64 lga)), .c (.v (.bool lcr)), .r 20 lto, .r 4 lva, .c (.sl lD lsd), .c (.sl lA lsa), .r 4 lbc, .c (.sl lB lsb), .c (.sl lU lsu), .r 4 lv, .r 4 lr, .r 4 ls]] k ∨ R := fun Γ d' k R hΓ hk => call_by hΓ encode15_sound ⟨t.lent, by rw [lrow], hlo, hlf, by rw [lent_enc, hen, hD] at *; exact hk⟩
  have callH : ∀ (Γ : Ctx) (d' : Nat) (k : List PR → Prop) (R : Prop), Γ = ctx Tryd.prog d' → 0 < T.length → T.length ≤ 16777216 → (∀ (M : Int) (m : Nat), M = m → m < T.length → k [.s (.v (.int .i64 M))]) → Γ.g 10 [.s (.v (.int .i64 a)), .s (.v (.int .i64 (ar.len D)))] k ∨ R := fun Γ d' k R hΓ h0 h1 hk => call_by hΓ which15_sound ⟨a, T.length, by rw [hDl], h0, by omega, fun m hm => hk _ m rfl hm⟩
  have callC : ∀ (P S : List (List PS)) (p : List Int) (Γ : Ctx) (d' : Nat) (k : List PR → Prop) (R : Prop), Γ = ctx Tryd.prog d' → P = p.map b8 → p.length ≤ 2 ^ 40 → k [.s (.sl P [])] → Γ.g 12 [.s (.sl P S)] k ∨ R := fun P S p Γ d' k R hΓ hP hl hk => call_by hΓ copied15_sound ⟨p, S, by rw [hP], hl, by rw [← hP]; exact hk⟩
  have callO : ∀ (Γ : Ctx) (d' : Nat) (k : List PR → Prop) (R : Prop), Γ = ctx Tryd.prog d' → T.length ≤ 16777216 → k [.s (.ow D 5 1 1)] → Γ.g 12 [.s (.sl D [])] k ∨ R := fun Γ d' k R hΓ hl hk => call_by hΓ copied15w_sound ⟨T, [], by rw [hD], by omega, by rw [← hD]; exact hk⟩
  have callX : ∀ (P : List (List PS)) (p : List Int) (f : Int) (Γ : Ctx) (d' : Nat) (k : List PR → Prop) (R : Prop), Γ = ctx Tryd.prog d' → P = p.map b8 → bytesOk p → p.length ≤ 2 ^ 25 → decD p = .error f → k [.a [.c (.v (.int .i64 0)), .c (.v (.int .u64 0)), .c (.v (.int .u64 0)), .r 4 [.int .u64 0, .int .u64 0, .int .u64 0, .int .u64 0], .r 4 [.int .u64 0, .int .u64 0, .int .u64 0, .int .u64 0], .r 4 [.int .u64 0, .int .u64 0, .int .u64 0, .int .u64 0], .c (.v (.int .u64 0)), .c (.v (.bool false)), .r 20 [.int .u8 0, .int .u8 0, .int .u8 0, .int .u8 0, .int .u8 0, .int .u8 0, .int .u8 0, .int .u8 0, .int .u8 0, .int .u8 0, .int .u8 0, .int .u8 0, .int .u8 0, .int .u8 0, .int .u8 0, .int .u8 0, .int .u8 0, .int .u8 0, .int .u8 0, .int .u8 0], .r 4 [.int .u64 0, .int .u64 0, .int .u64 0, .int .u64 0], .c (.sl [] []), .c (.sl [] []), .r 4 [.int .u64 0, .int .u64 0, .int .u64 0, .int .u64 0], .c (.sl [] []), .c (.sl [] []), .r 4 [.int .u64 0, .int .u64 0, .int .u64 0, .int .u64 0], .r 4 [.int .u64 0, .int .u64 0, .int .u64 0, .int .u64 0], .r 4 [.int .u64 0, .int .u64 0, .int .u64 0, .int .u64 0]], .s (.v (.int .i64 f))] → Γ.g 11 [.s (.sl P [])] k ∨ R := fun P p f Γ d' k R hΓ hP hb hl hd hk => call_by hΓ decode15_sound ⟨p, [], by rw [hP], hb, hl, (by intro z hz; cases hz), by rw [hd, decP, zeroRow]; exact hk⟩
  have callY : ∀ (P : List (List PS)) (p : List Int) (v : Tx) (A : List PS) (Γ : Ctx) (d' : Nat) (k : List PR → Prop) (R : Prop), Γ = ctx Tryd.prog d' → P = p.map b8 → bytesOk p → p.length ≤ 2 ^ 25 → decD p = .ok v → v.row = A → k [.a A, .s (.v (.int .i64 0))] → Γ.g 11 [.s (.sl P [])] k ∨ R := fun P p v A Γ d' k R hΓ hP hb hl hd hA hk => call_by hΓ decode15_sound ⟨p, [], by rw [hP], hb, hl, (by intro z hz; cases hz), by rw [hd, decP, hA]; exact hk⟩
  have callZ : ∀ (Γ : Ctx) (d' : Nat) (k : List PR → Prop) (R : Prop), Γ = ctx Tryd.prog d' → k [.s (.v (.bool true))] → Γ.g 13 [.a [.c (.v (.int .i64 0)), .c (.v (.int .u64 0)), .c (.v (.int .u64 0)), .r 4 [.int .u64 0, .int .u64 0, .int .u64 0, .int .u64 0], .r 4 [.int .u64 0, .int .u64 0, .int .u64 0, .int .u64 0], .r 4 [.int .u64 0, .int .u64 0, .int .u64 0, .int .u64 0], .c (.v (.int .u64 0)), .c (.v (.bool false)), .r 20 [.int .u8 0, .int .u8 0, .int .u8 0, .int .u8 0, .int .u8 0, .int .u8 0, .int .u8 0, .int .u8 0, .int .u8 0, .int .u8 0, .int .u8 0, .int .u8 0, .int .u8 0, .int .u8 0, .int .u8 0, .int .u8 0, .int .u8 0, .int .u8 0, .int .u8 0, .int .u8 0], .r 4 [.int .u64 0, .int .u64 0, .int .u64 0, .int .u64 0], .c (.sl [] []), .c (.sl [] []), .r 4 [.int .u64 0, .int .u64 0, .int .u64 0, .int .u64 0], .c (.sl [] []), .c (.sl [] []), .r 4 [.int .u64 0, .int .u64 0, .int .u64 0, .int .u64 0], .r 4 [.int .u64 0, .int .u64 0, .int .u64 0, .int .u64 0], .r 4 [.int .u64 0, .int .u64 0, .int .u64 0, .int .u64 0]], .a [.c (.v (.int .i64 0)), .c (.v (.int .u64 0)), .c (.v (.int .u64 0)), .r 4 [.int .u64 0, .int .u64 0, .int .u64 0, .int .u64 0], .r 4 [.int .u64 0, .int .u64 0, .int .u64 0, .int .u64 0], .r 4 [.int .u64 0, .int .u64 0, .int .u64 0, .int .u64 0], .c (.v (.int .u64 0)), .c (.v (.bool false)), .r 20 [.int .u8 0, .int .u8 0, .int .u8 0, .int .u8 0, .int .u8 0, .int .u8 0, .int .u8 0, .int .u8 0, .int .u8 0, .int .u8 0, .int .u8 0, .int .u8 0, .int .u8 0, .int .u8 0, .int .u8 0, .int .u8 0, .int .u8 0, .int .u8 0, .int .u8 0, .int .u8 0], .r 4 [.int .u64 0, .int .u64 0, .int .u64 0, .int .u64 0], .c (.sl [] []), .c (.sl [] []), .r 4 [.int .u64 0, .int .u64 0, .int .u64 0, .int .u64 0], .c (.sl [] []), .c (.sl [] []), .r 4 [.int .u64 0, .int .u64 0, .int .u64 0, .int .u64 0], .r 4 [.int .u64 0, .int .u64 0, .int .u64 0, .int .u64 0], .r 4 [.int .u64 0, .int .u64 0, .int .u64 0, .int .u64 0]]] k ∨ R := fun Γ d' k R hΓ hk => call_by hΓ txSame_sound ⟨zeroTx 0, zeroTx 0, true, by rw [zeroRow], zeroTx_ok (by omega), zeroTx_ok (by omega), ⟨Nat.zero_le _, Nat.zero_le _, (by intro e he; cases he), Nat.zero_le _, Nat.zero_le _⟩, by simp, hk⟩
  rw [← hQ, trow] at hargs
  have hshort : e = 0 → T.length ≤ 16777216 ∧ 0 < T.length := fun h => by
    have := enc_short (t := t) (by rw [← hee, h])
    rw [← hT] at this; exact this
  have n1 : ar.nb true = false := by rw [har]; rfl
  have n2 : ar.nb false = true := by rw [har]; rfl
  have n00 : ar.cb .neq 0 0 = false := dNne har rfl
  have e00 : ar.cb .eql 0 0 = true := dEq har rfl
  by_cases he : e = 0
  case neg =>
    have ne0 : ar.cb .neq e 0 = true := dNe har he
    clear hen hee
    subst hargs
    conv => cbv
    refine callV _ _ _ _ hΓ ?_
    conv => cbv
    refine onF n1 ?_
    conv => cbv
    refine callW _ _ _ _ hΓ ?_
    conv => cbv
    refine callE _ _ _ _ hΓ ?_
    conv => cbv
    refine gonF ne0 ?_
    conv => cbv
    exact hk
  case pos =>
    obtain ⟨hT1, hT2⟩ := hshort he
    subst he
    have hq20 : ar.cb .gtr (ar.len Q) 1048576 = false := dNgt har (by omega)
    subst hargs
    conv => cbv
    refine callV _ _ _ _ hΓ ?_
    conv => cbv
    refine onF n1 ?_
    conv => cbv
    refine callW _ _ _ _ hΓ ?_
    conv => cbv
    refine callE _ _ _ _ hΓ ?_
    conv => cbv
    refine gonT n00 ?_
    conv => cbv
    refine onF hq20 ?_
    conv => cbv
    refine callH _ _ _ _ hΓ hT2 hT1 fun M m hM hm => ?_
    have hM0 : 0 ≤ M := by omega
    have hM1 : M ≤ ((D.length + 0 : Nat) : Int) := by rw [hM, hD, List.length_map]; omega
    have hP : ar.mid D 0 (ar.nat M) = (T.take m).map b8 := by rw [natOf har hM, midIs har, hD, List.drop_zero, List.map_take]
    obtain ⟨f, hdf, hf0⟩ := dec_short hen hTb hm
    have hfe : ar.cb .eql f 0 = false := dNeq har hf0
    conv => cbv
    refine ⟨fun _ => ⟨hM0, hM1⟩, ?_⟩
    refine callC _ _ (T.take m) _ _ _ _ hΓ hP (by rw [List.length_take]; omega) ?_
    conv => cbv
    refine callX _ (T.take m) f _ _ _ _ hΓ hP (fun x hx => hTb x (List.mem_of_mem_take hx)) (by rw [List.length_take]; omega) hdf ?_
    conv => cbv
    refine gonT hfe ?_
    conv => cbv
    refine callZ _ _ _ _ hΓ ?_
    conv => cbv
    refine onF n1 ?_
    have hkn : k [.s (.v (.bool (ar.nb false)))] := by rw [n2]; exact hk
    conv => cbv
    refine ⟨fun h => ?_, fun h => ?_⟩
    · have g := cGt har (a := ar.len Q) (b := 0) h
      have hqne : q ≠ [] := fun e => by rw [hQl, e] at g; exact absurd g (by decide)
      conv => cbv
      refine callO _ _ _ _ hΓ hT1 ?_
      conv => cbv
      refine .inr ⟨{ p : Nat × Int × List (List PS) // p.1 ≤ q.length ∧ p.2.1 = p.1 ∧ p.2.2 = (T ++ q.take p.1).map b8 },
        fun p => ⟨mk 115 [(2, .s (.p (.v (.int .u8 b)))), (3, .s (.p (.sl Q sq))), (4, .s (.ptr 0 0)), (9, .s (.p (.sl D []))), (11, pint M), (14, .s (.own 2)), (15, pint p.1.2.1)], [.box [.c (.p (.v (.int .i64 tty))), .c (.p (.v (.int .u64 tch))), .c (.p (.v (.int .u64 tno))), .r 4 tpr, .r 4 tti, .r 4 tca, .c (.p (.v (.int .u64 tga))), .c (.p (.v (.bool tcr))), .r 20 tto, .r 4 tva, .c (.p (.sl tD tsd)), .c (.p (.sl tA tsa)), .r 4 tbc, .c (.p (.sl tB tsb)), .c (.p (.sl tU tsu)), .r 4 tv, .r 4 tr, .r 4 ts], .gone, .arr p.1.2.2 5 1 1 true]⟩,
        fun p => q.length - p.1.1, [], _, ⟨(0, 0, D), Nat.zero_le _, rfl, by rw [hD]; simp⟩, rfl, ?_, ?_⟩
      · conv => cbv
        simp
      · rintro ⟨⟨p, pi, L⟩, hq⟩
        have hp : p ≤ q.length := hq.1
        have hpi : pi = (p : Int) := hq.2.1
        have hL : L = (T ++ q.take p).map b8 := hq.2.2
        have hLl : L.length = T.length + p := by rw [hL, List.length_map, List.length_append, List.length_take]; omega
        dsimp only
        conv => cbv
        refine ⟨fun h => ?_, fun h => ?_⟩
        · have g := cLt har (b := ar.len Q) h
          have hlt : p < q.length := by omega
          obtain ⟨x, hx⟩ : ∃ x, q[p]? = some x := ⟨_, List.getElem?_eq_getElem hlt⟩
          have rx : Q[pi.toNat]? = some [.c (.v (.int .u8 x))] := by rw [hQ, hpi]; simp [hx, b8]
          have hL2 : ar.app L [[.c (.v (.int .u8 x))]] = (T ++ q.take (p + 1)).map b8 := by rw [appIs har, hL, take_succ_get hx, ← List.append_assoc, List.map_append (l₂ := [x])]; rfl
          conv => cbv
          refine ⟨_, by omega, rx, rfl, ?_⟩
          conv => cbv
          refine ⟨fun _ => ⟨by show (L.length + 1) * 1 ≤ 140737488355328; omega, fun y hy => by rw [List.mem_singleton] at hy; subst hy; rfl⟩, ?_⟩
          refine ⟨⟨(p + 1, ar.ib .add .i64 pi 1, ar.app L [[.c (.v (.int .u8 x))]]), hlt, iSucc har hpi (by omega), hL2⟩, ?_, ?_⟩
          · dsimp only
            conv => cbv
            simp
          · show q.length - (p + 1) < q.length - p
            omega
        · have g := cNlt har (b := ar.len Q) h
          have hpe : p = q.length := by omega
          have hLD : L = (T ++ q).map b8 := by rw [hL, hpe, List.take_length]
          obtain ⟨f2, hdf2, hf2⟩ := dec_long hen hTb hqo hqne
          have hfe2 : ar.cb .eql f2 0 = false := dNeq har hf2
          conv => cbv
          refine callX _ (T ++ q) f2 _ _ _ _ hΓ hLD (bytesOk_app hTb hqo) (by rw [List.length_append]; omega) hdf2 ?_
          conv => cbv
          refine gonT hfe2 ?_
          conv => cbv
          refine callZ _ _ _ _ hΓ ?_
          conv => cbv
          refine onF n1 ?_
          conv => cbv
          refine ⟨fun h => ?_, fun h => ?_⟩
          · conv => cbv
            exact hk
          have gb := cNeq har (a := b) (b := 0) h
          conv => cbv
          refine callO _ _ _ _ hΓ hT1 ?_
          obtain ⟨x, hx⟩ : ∃ x, T[m]? = some x := ⟨_, List.getElem?_eq_getElem hm⟩
          have hxb := hTb x (List.mem_of_getElem? hx)
          obtain ⟨y, hy⟩ : ∃ y, ar.ib .add .u8 x b = y := ⟨_, rfl⟩
          have hyv : y = (x + b) % 256 := by rw [← hy, iIs har]; show IntKind.u8.wrap _ = _; rw [u8Wrap]
          have rM : D[ar.nat M]? = some [.c (.v (.int .u8 x))] := by rw [natOf har hM, hD, List.getElem?_map, hx]; rfl
          have hMb : 0 ≤ M ∧ M < (D.length : Int) := by rw [hD, List.length_map]; omega
          have hMn : ar.nat M < D.length := by rw [natOf har hM, hD, List.length_map]; exact hm
          have hX : ar.setx D (ar.nat M) [.c (.v (.int .u8 (ar.ib .add .u8 x b)))] = (T.set m y).map b8 := by rw [hy, setxIs har, natOf har hM, hD, List.map_set]; rfl
          have hne : T.set m y ≠ T := fun e => by
            have h1 : (T.set m y)[m]? = some y := by rw [List.getElem?_set_self hm]
            rw [e, hx] at h1
            have := Option.some.inj h1
            omega
          have hob : bytesOk (T.set m y) := fun z hz => by
            rcases List.mem_or_eq_of_mem_set hz with h1 | h1
            · exact hTb z h1
            · omega
          have hol : (T.set m y).length ≤ 2 ^ 25 := by rw [List.length_set]; omega
          conv => cbv
          refine ⟨fun _ => hMb, _, rM, ?_⟩
          conv => cbv
          refine ⟨fun _ => hMb, ?_⟩
          refine ⟨fun _ => ⟨hMn, rfl⟩, ?_⟩
          cases hR : decD (T.set m y) with
          | error f3 =>
            have g3 : ar.cb .neq f3 0 = true := dNe har (decD_err hR)
            refine callX _ (T.set m y) f3 _ _ _ _ hΓ hX hob hol hR ?_
            conv => cbv
            refine gonF g3 ?_
            conv => cbv
            exact hk
          | ok v =>
            have hco := dec_other hen hob hR hne
            obtain ⟨hvo, hvl⟩ := decD_ok (n := 2 ^ 26) hob (by omega) hR
            have vhrow : ∃ (vty vch vno vga : Int) (vpr vti vca vto vva vbc vv vr vs : List Value) (vcr : Bool) (vD vsd vA vsa vB vsb vU vsu : List (List PS)), v.row = [.c (.v (.int .i64 vty)), .c (.v (.int .u64 vch)), .c (.v (.int .u64 vno)), .r 4 vpr, .r 4 vti, .r 4 vca, .c (.v (.int .u64 vga)), .c (.v (.bool vcr)), .r 20 vto, .r 4 vva, .c (.sl vD vsd), .c (.sl vA vsa), .r 4 vbc, .c (.sl vB vsb), .c (.sl vU vsu), .r 4 vv, .r 4 vr, .r 4 vs] := ⟨_, _, _, _, _, _, _, _, _, _, _, _, _, _, _, _, _, _, _, _, _, _, rfl⟩
            obtain ⟨vty, vch, vno, vga, vpr, vti, vca, vto, vva, vbc, vv, vr, vs, vcr, vD, vsd, vA, vsa, vB, vsb, vU, vsu, vrow⟩ := vhrow
            refine callY _ (T.set m y) v _ _ _ _ _ hΓ hX hob hol hR vrow ?_
            conv => cbv
            refine gonT n00 ?_
            conv => cbv
            have callS : ∀ (Γ : Ctx) (d' : Nat) (k : List PR → Prop) (R : Prop), Γ = ctx Tryd.prog d' → k [.s (.v (.bool false))] → Γ.g 13 [.a [.c (.v (.int .i64 vty)), .c (.v (.int .u64 vch)), .c (.v (.int .u64 vno)), .r 4 vpr, .r 4 vti, .r 4 vca, .c (.v (.int .u64 vga)), .c (.v (.bool vcr)), .r 20 vto, .r 4 vva, .c (.sl vD vsd), .c (.sl vA vsa), .r 4 vbc, .c (.sl vB vsb), .c (.sl vU vsu), .r 4 vv, .r 4 vr, .r 4 vs], .a [.c (.v (.int .i64 tty)), .c (.v (.int .u64 tch)), .c (.v (.int .u64 tno)), .r 4 tpr, .r 4 tti, .r 4 tca, .c (.v (.int .u64 tga)), .c (.v (.bool tcr)), .r 20 tto, .r 4 tva, .c (.sl tD tsd), .c (.sl tA tsa), .r 4 tbc, .c (.sl tB tsb), .c (.sl tU tsu), .r 4 tv, .r 4 tr, .r 4 ts]] k ∨ R := fun Γ d' k R hΓ hk => call_by hΓ txSame_sound ⟨v, t, false, by rw [vrow, trow], hvo, hto, hvl.fit.small, by simp [hco], hk⟩
            refine callS _ _ _ _ hΓ ?_
            conv => cbv
            exact hkn
    · conv => cbv
      refine ⟨fun h => ?_, fun h => ?_⟩
      · conv => cbv
        exact hk
      have gb := cNeq har (a := b) (b := 0) h
      conv => cbv
      refine callO _ _ _ _ hΓ hT1 ?_
      obtain ⟨x, hx⟩ : ∃ x, T[m]? = some x := ⟨_, List.getElem?_eq_getElem hm⟩
      have hxb := hTb x (List.mem_of_getElem? hx)
      obtain ⟨y, hy⟩ : ∃ y, ar.ib .add .u8 x b = y := ⟨_, rfl⟩
      have hyv : y = (x + b) % 256 := by rw [← hy, iIs har]; show IntKind.u8.wrap _ = _; rw [u8Wrap]
      have rM : D[ar.nat M]? = some [.c (.v (.int .u8 x))] := by rw [natOf har hM, hD, List.getElem?_map, hx]; rfl
      have hMb : 0 ≤ M ∧ M < (D.length : Int) := by rw [hD, List.length_map]; omega
      have hMn : ar.nat M < D.length := by rw [natOf har hM, hD, List.length_map]; exact hm
      have hX : ar.setx D (ar.nat M) [.c (.v (.int .u8 (ar.ib .add .u8 x b)))] = (T.set m y).map b8 := by rw [hy, setxIs har, natOf har hM, hD, List.map_set]; rfl
      have hne : T.set m y ≠ T := fun e => by
        have h1 : (T.set m y)[m]? = some y := by rw [List.getElem?_set_self hm]
        rw [e, hx] at h1
        have := Option.some.inj h1
        omega
      have hob : bytesOk (T.set m y) := fun z hz => by
        rcases List.mem_or_eq_of_mem_set hz with h1 | h1
        · exact hTb z h1
        · omega
      have hol : (T.set m y).length ≤ 2 ^ 25 := by rw [List.length_set]; omega
      conv => cbv
      refine ⟨fun _ => hMb, _, rM, ?_⟩
      conv => cbv
      refine ⟨fun _ => hMb, ?_⟩
      refine ⟨fun _ => ⟨hMn, rfl⟩, ?_⟩
      cases hR : decD (T.set m y) with
      | error f3 =>
        have g3 : ar.cb .neq f3 0 = true := dNe har (decD_err hR)
        refine callX _ (T.set m y) f3 _ _ _ _ hΓ hX hob hol hR ?_
        conv => cbv
        refine gonF g3 ?_
        conv => cbv
        exact hk
      | ok v =>
        have hco := dec_other hen hob hR hne
        obtain ⟨hvo, hvl⟩ := decD_ok (n := 2 ^ 26) hob (by omega) hR
        have vhrow : ∃ (vty vch vno vga : Int) (vpr vti vca vto vva vbc vv vr vs : List Value) (vcr : Bool) (vD vsd vA vsa vB vsb vU vsu : List (List PS)), v.row = [.c (.v (.int .i64 vty)), .c (.v (.int .u64 vch)), .c (.v (.int .u64 vno)), .r 4 vpr, .r 4 vti, .r 4 vca, .c (.v (.int .u64 vga)), .c (.v (.bool vcr)), .r 20 vto, .r 4 vva, .c (.sl vD vsd), .c (.sl vA vsa), .r 4 vbc, .c (.sl vB vsb), .c (.sl vU vsu), .r 4 vv, .r 4 vr, .r 4 vs] := ⟨_, _, _, _, _, _, _, _, _, _, _, _, _, _, _, _, _, _, _, _, _, _, rfl⟩
        obtain ⟨vty, vch, vno, vga, vpr, vti, vca, vto, vva, vbc, vv, vr, vs, vcr, vD, vsd, vA, vsa, vB, vsb, vU, vsu, vrow⟩ := vhrow
        refine callY _ (T.set m y) v _ _ _ _ _ hΓ hX hob hol hR vrow ?_
        conv => cbv
        refine gonT n00 ?_
        conv => cbv
        have callS : ∀ (Γ : Ctx) (d' : Nat) (k : List PR → Prop) (R : Prop), Γ = ctx Tryd.prog d' → k [.s (.v (.bool false))] → Γ.g 13 [.a [.c (.v (.int .i64 vty)), .c (.v (.int .u64 vch)), .c (.v (.int .u64 vno)), .r 4 vpr, .r 4 vti, .r 4 vca, .c (.v (.int .u64 vga)), .c (.v (.bool vcr)), .r 20 vto, .r 4 vva, .c (.sl vD vsd), .c (.sl vA vsa), .r 4 vbc, .c (.sl vB vsb), .c (.sl vU vsu), .r 4 vv, .r 4 vr, .r 4 vs], .a [.c (.v (.int .i64 tty)), .c (.v (.int .u64 tch)), .c (.v (.int .u64 tno)), .r 4 tpr, .r 4 tti, .r 4 tca, .c (.v (.int .u64 tga)), .c (.v (.bool tcr)), .r 20 tto, .r 4 tva, .c (.sl tD tsd), .c (.sl tA tsa), .r 4 tbc, .c (.sl tB tsb), .c (.sl tU tsu), .r 4 tv, .r 4 tr, .r 4 ts]] k ∨ R := fun Γ d' k R hΓ hk => call_by hΓ txSame_sound ⟨v, t, false, by rw [vrow, trow], hvo, hto, hvl.fit.small, by simp [hco], hk⟩
        refine callS _ _ _ _ hΓ ?_
        conv => cbv
        exact hkn
end Go.Eng
