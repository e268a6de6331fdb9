/-
  waybilllaw14.AccessItems answers true. Conditions: addresses of 20 bytes, keys of 32; bulk at most 2^28.
-/
import Derived.Test.YtgihmigiecfmaaaQA
import Derived.Test.YtgihmigiecfmaaaSA
import Derived.Test.YtgihmigiecfmaaaRC
namespace Go.Eng
open Go Go.Proofs
set_option maxRecDepth 100000
set_option maxHeartbeats 16000000
set_option linter.unusedVariables false

theorem frzT {ar : Ar} (har : ar = arS) (es : List Ent) : ar.frz (es.map Ent.trow) = es.map Ent.trow := by
  rw [har]
  show frzX (es.map Ent.trow) = _
  induction es with
  | nil => rfl
  | cons e es ih => rw [List.map_cons, frzX, ih]; rfl
theorem frzE {ar : Ar} (har : ar = arS) : ar.frz [endz zNil] = [endz zNil] := by rw [har]; rfl

theorem strip3 (x : It) : x.strip.strip = x.strip := by
  have key : ∀ n, ∀ x : It, x.bulk ≤ n → x.strip.strip = x.strip := by
    intro n
    induction n with
    | zero => intro x h; have := bulk_pos x; omega
    | succ n ih =>
      rintro ⟨l, d, sd, its, ss⟩ h
      simp only [It.bulk] at h
      have : ∀ its : List It, bulks its ≤ n → strips (strips its) = strips its := by
        intro its
        induction its with
        | nil => intro _; rfl
        | cons x xs ih2 => intro hh; simp only [bulks] at hh; simp only [strips]; rw [ih x (by omega), ih2 (by omega)]
      simp only [It.strip]
      rw [this its (by omega)]
  exact key _ x (Nat.le_refl _)

theorem its_tw (es : List Ent) : esIts (es.map Ent.tw14) = esIts es := by
  unfold esIts; rw [List.map_map]; rfl

theorem accPair {ar : Ar} (har : ar = arS) (es : List Ent) (h20 : ∀ e ∈ es, e.a.length = 20 ∧ ∀ w ∈ e.ks, w.length = 32) (hb : bulks (esIts es) ≤ 2 ^ 28) :
    ∃ (l : Bool) (D I sd I2 ss : List (List PS)) (e : Int),
      (∀ (Y s : List (List PS)) (Γ : Ctx) (d' : Nat) (k : List PR → Prop), Γ = ctx Try.prog d' → Y = ar.frz (es.map Ent.trow) → k [.ao [.c (.v (.bool l)), .c (oB D), .c (oI I)], .s (.v (.int .i64 e))] → Γ.g 7 [.s (.sl Y s)] (fun rs => shutRs rs ∧ k rs)) ∧
      (∀ (X s : List (List PS)) (Γ : Ctx) (d' : Nat) (k : List PR → Prop), Γ = ctx Try.prog d' → X = es.map Ent.row → k [.a [.c (.v (.bool l)), .c (.sl D sd), .c (.sl I2 ss)], .s (.v (.int .i64 e))] → Γ.g 8 [.s (.sl X s)] k) ∧
      (∀ (Γ : Ctx) (d' : Nat) (k : List PR → Prop), Γ = ctx Try.prog d' → k [.s (.v (.bool true))] → Γ.g 9 [.a [.c (.v (.bool l)), .c (.sl (ar.frz D) (ar.frz [])), .c (.sl (ar.frz I) (ar.frz []))], .a [.c (.v (.bool l)), .c (.sl D sd), .c (.sl I2 ss)]] k) ∧
      (∀ (Γ : Ctx) (d' : Nat) (k : List PR → Prop), Γ = ctx Try.prog d' → k [] → Γ.e 13 [.ao [.c (.v (.bool l)), .c (oB D), .c (oI I)]] k) := by
  obtain ⟨J, hJ⟩ : ∃ J, J = (if errOf (It.lst (esIts es)) = 0 then It.lst (esIts es) else .zero) := ⟨_, rfl⟩
  obtain ⟨e, he⟩ : ∃ e : Int, e = (if errOf (It.lst (esIts es)) = 0 then 0 else 2) := ⟨_, rfl⟩
  have hJb : J.bulk ≤ 2 ^ 30 := by
    rw [hJ]; split
    · simp only [It.lst, It.bulk, List.length_nil]; omega
    · decide
  obtain ⟨jl, jd, jsd, ji, jss⟩ := J
  have fD : ar.frz (jd.map b8) = jd.map b8 := frzB har jd
  have fI : ar.frz (orowsOf ji) = rowsOf (strips ji) := frzO har ji
  have hst : (It.mk jl jd jsd ji jss).strip.row = [.c (.v (.bool jl)), .c (.sl (ar.frz (jd.map b8)) (ar.frz [])), .c (.sl (ar.frz (orowsOf ji)) (ar.frz []))] := by rw [fD, fI, frz0 har]; rfl
  refine ⟨jl, jd.map b8, orowsOf ji, jsd, rowsOf ji, jss, e, ?_, ?_, ?_, ?_⟩
  · intro Y s Γ d' k hΓ hY hk
    refine call_by' hΓ accItem_own ⟨es.map Ent.tw14, s, by rw [hY, frzT har, map_tw14], ?_, by rw [its_tw]; omega, ?_⟩
    · intro x hx
      obtain ⟨y, hy, rfl⟩ := List.mem_map.1 hx
      exact h20 y hy
    · rw [its_tw, ← hJ, ← he]
      exact ⟨⟨⟨trivial, ⟨shutX_b8 jd, trivial⟩, ⟨orows_shut ji, trivial⟩, trivial⟩, trivial, trivial⟩, hk⟩
  · intro X s Γ d' k hΓ hX hk
    exact call_by' hΓ refItem_sound ⟨es, s, by rw [hX], h20, by omega, by rw [← hJ, ← he]; exact hk⟩
  · intro Γ d' k hΓ hk
    exact call_by' hΓ (same_sound (2 ^ 30)) ⟨(It.mk jl jd jsd ji jss).strip, It.mk jl jd jsd ji jss, by rw [← hst]; rfl, strip3 _, by rw [strip_bulk]; exact hJb, by decide, hk⟩
  · intro Γ d' k hΓ hk
    exact eat_by hΓ (spoil_eats (2 ^ 30)) ⟨It.mk jl jd jsd ji jss, rfl, hJb, by decide, hk⟩

theorem accessItems_law : Sound Try.prog 3 fun args k => ∃ (es : List Ent) (s : List (List PS)), args = [.s (.sl (es.map Ent.row) s)] ∧ (∀ e ∈ es, e.a.length = 20 ∧ ∀ w ∈ e.ks, w.length = 32) ∧ bulks (esIts es) ≤ 2 ^ 28 ∧ k [.s (.v (.bool true))] := by
  refine Sound.of_body tt_ok ent_ok Try.func3 rfl ?_
  rintro ar har Γ hΓ args k ⟨es, s, hargs, h20, hb, hk⟩
  obtain ⟨X, hX⟩ : ∃ X, X = es.map Ent.row := ⟨_, rfl⟩
  obtain ⟨T, hT⟩ : ∃ X, X = es.map Ent.trow := ⟨_, rfl⟩
  have hel : es.length ≤ 2 ^ 28 := by
    have h1 := bulks_len (esIts es)
    have h2 : (esIts es).length = es.length := List.length_map ..
    omega
  have hek : ∀ e ∈ es, e.ks.length ≤ 2 ^ 30 := fun e he => by
    obtain ⟨p, hp⟩ := List.getElem?_of_mem he
    have hEb : e.it.bulk ≤ bulks (esIts es) := bulk_get (its := esIts es) (p := p) (by simp only [esIts, List.getElem?_map, hp]; rfl)
    rw [Ent.it, ent_bulk] at hEb
    have hkb : e.ks.length ≤ ksB e.ks := by have := bulks_len (ksIts e.ks); rw [ksIts, List.length_map] at this; exact this
    omega
  obtain ⟨E, hE⟩ : ∃ E, E = [endz zNil] := ⟨_, rfl⟩
  obtain ⟨l, D, I, sd, I2, ss, e, callA, callR, callS, callP⟩ := accPair har es h20 hb
  have h20r : ∀ e ∈ es.reverse, e.a.length = 20 ∧ ∀ w ∈ e.ks, w.length = 32 := fun e he => h20 e (List.mem_reverse.1 he)
  have hekr : ∀ e ∈ es.reverse, e.ks.length ≤ 2 ^ 30 := fun e he => hek e (List.mem_reverse.1 he)
  have hbr : bulks (esIts es.reverse) ≤ 2 ^ 28 := by
    have h : ∀ its : List It, bulks its.reverse = bulks its := fun its => by
      induction its with
      | nil => rfl
      | cons x xs ih => rw [List.reverse_cons, bulks_append, ih]; simp only [bulks]; omega
    unfold esIts; rw [List.map_reverse, h]; exact hb
  obtain ⟨l', D', I', sd', I2', ss', e', callA', callR', callS', callP'⟩ := accPair har es.reverse h20r hbr
  obtain ⟨R, hR⟩ : ∃ R, R = es.reverse.map Ent.row := ⟨_, rfl⟩
  obtain ⟨U, hU⟩ : ∃ U, U = es.reverse.map Ent.trow := ⟨_, rfl⟩
  have callT : ∀ (Γ : Ctx) (d' : Nat) (k : List PR → Prop) (R : Prop), Γ = ctx Try.prog d' → k [.s (.on T E 62 21 48)] → Γ.g 6 [.s (.sl X s)] k ∨ R := fun Γ d' k R hΓ hk =>
    call_by hΓ twin14_own ⟨es, s, by rw [hX], by omega, hek, by rw [hT, hE] at hk; exact hk⟩
  have callV : ∀ (Γ : Ctx) (d' : Nat) (k : List PR → Prop), Γ = ctx Try.prog d' → k [.s (.sl U [endrow])] → Γ.g 6 [.s (.sl R [])] k := fun Γ d' k hΓ hk =>
    call_by' hΓ twin_sound ⟨es.reverse, [], by rw [hR], by rw [List.length_reverse]; omega, fun e he => by have := hekr e he; omega, by rw [hU] at hk; exact hk⟩
  have callO : ∀ (Γ : Ctx) (d' : Nat) (k : List PR → Prop) (Q : Prop), Γ = ctx Try.prog d' → k [.s (.sl R [])] → Γ.g 12 [.s (.sl X s)] k ∨ Q := fun Γ d' k Q hΓ hk =>
    call_by hΓ turned_sound ⟨es, s, by rw [hX], by omega, by rw [hR] at hk; exact hk⟩
  have callL : ∀ (Γ : Ctx) (d' : Nat) (k : List PR → Prop), Γ = ctx Try.prog d' → k [.s (.v (.bool true))] → Γ.g 11 [.s (.sl (ar.frz T) (ar.frz E)), .s (.sl X s)] k := fun Γ d' k hΓ hk =>
    call_by' hΓ stillz_sound ⟨es, s, zNil, by rw [hT, hE, hX, frzT har, frzE har], by omega, fun e he => by have := hek e he; omega, hk⟩
  have hcpy : ar.cpy T U = U := by
    rw [cpyIs har, List.take_of_length_le (by rw [hT, hU, List.length_map, List.length_map, List.length_reverse]; exact Nat.le_refl _), List.drop_of_length_le (by rw [hT, hU, List.length_map, List.length_map, List.length_reverse]; exact Nat.le_refl _), List.append_nil]
  have callL' : ∀ (Γ : Ctx) (d' : Nat) (k : List PR → Prop), Γ = ctx Try.prog d' → k [.s (.v (.bool true))] → Γ.g 11 [.s (.sl (ar.frz (ar.cpy T U)) (ar.frz E)), .s (.sl R [])] k := fun Γ d' k hΓ hk =>
    call_by' hΓ stillz_sound ⟨es.reverse, [], zNil, by rw [hcpy, hU, hE, hR, frzT har, frzE har], by rw [List.length_reverse]; omega, fun e he => by have := hekr e he; omega, hk⟩
  have callN : ∀ (e : Int) (Γ : Ctx) (d' : Nat) (k : List PR → Prop), Γ = ctx Try.prog d' → k [.s (.v (.int .i64 e))] → Γ.g 10 [.s (.v (.int .i64 e))] k := fun e Γ d' k hΓ hk => call_by' hΓ num14_sound ⟨e, rfl, hk⟩
  have hcpy2 : ar.frz (ar.cpy T U) = ar.frz (es.reverse.map Ent.trow) := by rw [hcpy, hU]
  have nT : ar.nb true = false := by rw [har]; rfl
  have nE : ar.cb .neq e e = false := dNne har rfl
  have nE' : ar.cb .neq e' e' = false := dNne har rfl
  have hUr : ∀ y ∈ U, rlen y = 21 := fun y hy => by
    rw [hU] at hy
    obtain ⟨u, _, rfl⟩ := List.mem_map.1 hy
    simp [Ent.trow, rlen, PS.len]
  rw [← hX] at hargs
  subst hargs
  conv => cbv
  refine callT _ _ _ _ hΓ ?_
  conv => cbv
  refine .inl (callA _ _ _ _ _ hΓ (by rw [hT]) ?_)
  conv => cbv
  refine .inl (callA _ _ _ _ _ hΓ (by rw [hT]) ?_)
  conv => cbv
  refine .inl (callR _ _ _ _ _ hΓ hX ?_)
  conv => cbv
  refine .inl (callS _ _ _ hΓ ⟨⟨trivial, trivial⟩, ?_⟩)
  conv => cbv
  refine ⟨fun _ => ?_, fun h => absurd (nT.symm.trans h) (by decide)⟩
  conv => cbv
  refine .inl (callN e _ _ _ hΓ ?_)
  conv => cbv
  refine ⟨fun _ => ?_, fun h => absurd (nE.symm.trans h) (by decide)⟩
  conv => cbv
  refine .inl (callL _ _ _ hΓ ⟨⟨trivial, trivial⟩, ?_⟩)
  conv => cbv
  refine onF nT ?_
  conv => cbv
  refine callO _ _ _ _ hΓ ?_
  conv => cbv
  refine .inl (callV _ _ _ hΓ ?_)
  conv => cbv
  refine ⟨fun _ => hUr, ?_⟩
  conv => cbv
  refine .inl (callA' _ _ _ _ _ hΓ hcpy2 ?_)
  conv => cbv
  refine .inl (callR' _ _ _ _ _ hΓ hR ?_)
  conv => cbv
  refine .inl (callS' _ _ _ hΓ ⟨⟨trivial, trivial⟩, ?_⟩)
  conv => cbv
  refine ⟨fun _ => ?_, fun h => absurd (nT.symm.trans h) (by decide)⟩
  conv => cbv
  refine .inl (callN e' _ _ _ hΓ ?_)
  conv => cbv
  refine ⟨fun _ => ?_, fun h => absurd (nE'.symm.trans h) (by decide)⟩
  conv => cbv
  refine .inl (callS _ _ _ hΓ ⟨⟨trivial, trivial⟩, ?_⟩)
  conv => cbv
  refine onF nT ?_
  conv => cbv
  refine .inr (.inr (.inr ⟨_, loosRs_refl _, callP _ _ _ hΓ ?_⟩))
  conv => cbv
  refine .inl (callS _ _ _ hΓ ⟨⟨trivial, trivial⟩, ?_⟩)
  conv => cbv
  refine ⟨fun _ => ?_, fun h => absurd h (by decide)⟩
  conv => cbv
  refine .inl (callS' _ _ _ hΓ ⟨⟨trivial, trivial⟩, ?_⟩)
  conv => cbv
  refine ⟨fun _ => ?_, fun h => absurd h (by decide)⟩
  conv => cbv
  refine .inl (callL' _ _ _ hΓ ⟨⟨trivial, trivial⟩, ?_⟩)
  conv => cbv
  exact hk
end Go.Eng
