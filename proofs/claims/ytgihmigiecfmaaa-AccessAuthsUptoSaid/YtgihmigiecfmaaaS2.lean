/-
  waybilllaw14.AccessAuths answers true. Conditions: at most 2^20 authorizations.
-/
import Derived.Test.YtgihmigiecfmaaaQA
import Derived.Test.YtgihmigiecfmaaaPA
import Derived.Test.YtgihmigiecfmaaaRC
namespace Go.Eng
open Go Go.Proofs
set_option maxRecDepth 100000
set_option maxHeartbeats 16000000
set_option linter.unusedVariables false

theorem strip2 (x : It) : x.strip.strip = x.strip := by
  have key : ∀ n, ∀ x : It, x.bulk ≤ n → x.strip.strip = x.strip := by
    intro n
    induction n with
    | zero => intro x h; have := bulk_pos x; omega
    | succ n ih =>
      rintro ⟨l, d, sd, its, ss⟩ h
      simp only [It.bulk] at h
      have : ∀ its : List It, bulks its ≤ n → strips (strips its) = strips its := by
        intro its
        induction its with
        | nil => intro _; rfl
        | cons x xs ih2 => intro hh; simp only [bulks] at hh; simp only [strips]; rw [ih x (by omega), ih2 (by omega)]
      simp only [It.strip]
      rw [this its (by omega)]
  exact key _ x (Nat.le_refl _)
abbrev auRow (n : Int) : List PS := [.r 4 [.int .u64 0, .int .u64 0, .int .u64 0, .int .u64 0], .r 20 [.int .u8 0, .int .u8 0, .int .u8 0, .int .u8 0, .int .u8 0, .int .u8 0, .int .u8 0, .int .u8 0, .int .u8 0, .int .u8 0, .int .u8 0, .int .u8 0, .int .u8 0, .int .u8 0, .int .u8 0, .int .u8 0, .int .u8 0, .int .u8 0, .int .u8 0, .int .u8 0], .c (.v (.int .u64 n)), .c (.v (.int .u64 0)), .r 4 [.int .u64 0, .int .u64 0, .int .u64 0, .int .u64 0], .r 4 [.int .u64 0, .int .u64 0, .int .u64 0, .int .u64 0]]

theorem mark_ok : okL [some .u64, some .u64, some .u64, some .u64, some .u8, some .u8, some .u8, some .u8, some .u8, some .u8, some .u8, some .u8, some .u8, some .u8, some .u8, some .u8, some .u8, some .u8, some .u8, some .u8, some .u8, some .u8, some .u8, some .u8, some .u64, some .u64, some .u64, some .u64, some .u64, some .u64, some .u64, some .u64, some .u64, some .u64] [.int .u64 0, .int .u64 0, .int .u64 0, .int .u64 0, .int .u8 0, .int .u8 0, .int .u8 0, .int .u8 0, .int .u8 0, .int .u8 0, .int .u8 0, .int .u8 0, .int .u8 0, .int .u8 0, .int .u8 0, .int .u8 0, .int .u8 0, .int .u8 0, .int .u8 0, .int .u8 0, .int .u8 0, .int .u8 0, .int .u8 0, .int .u8 0, .int .u64 77, .int .u64 0, .int .u64 0, .int .u64 0, .int .u64 0, .int .u64 0, .int .u64 0, .int .u64 0, .int .u64 0, .int .u64 0] := by
  simp only [okL]
  exact ⟨⟨_, rfl, by decide⟩, ⟨_, rfl, by decide⟩, ⟨_, rfl, by decide⟩, ⟨_, rfl, by decide⟩, ⟨_, rfl, by decide⟩, ⟨_, rfl, by decide⟩, ⟨_, rfl, by decide⟩, ⟨_, rfl, by decide⟩, ⟨_, rfl, by decide⟩, ⟨_, rfl, by decide⟩, ⟨_, rfl, by decide⟩, ⟨_, rfl, by decide⟩, ⟨_, rfl, by decide⟩, ⟨_, rfl, by decide⟩, ⟨_, rfl, by decide⟩, ⟨_, rfl, by decide⟩, ⟨_, rfl, by decide⟩, ⟨_, rfl, by decide⟩, ⟨_, rfl, by decide⟩, ⟨_, rfl, by decide⟩, ⟨_, rfl, by decide⟩, ⟨_, rfl, by decide⟩, ⟨_, rfl, by decide⟩, ⟨_, rfl, by decide⟩, ⟨_, rfl, by decide⟩, ⟨_, rfl, by decide⟩, ⟨_, rfl, by decide⟩, ⟨_, rfl, by decide⟩, ⟨_, rfl, by decide⟩, ⟨_, rfl, by decide⟩, ⟨_, rfl, by decide⟩, ⟨_, rfl, by decide⟩, ⟨_, rfl, by decide⟩, ⟨_, rfl, by decide⟩, trivial⟩

theorem accessAuths_law : Sound Try.prog 4 fun args k => ∃ (us : List Au) (s : List (List PS)), args = [.s (.sl (us.map Au.row) s)] ∧ (∀ u ∈ us, u.ok ∧ bytesOk u.a) ∧ us.length ≤ 2 ^ 20 ∧ k [.s (.v (.bool true))] := by
  refine Sound.of_body tt_ok ent_ok Try.func4 rfl ?_
  rintro ar har Γ hΓ args k ⟨us, s, hargs, hok2, hb, hk⟩
  have hok : ∀ u ∈ us, u.ok := fun u hu => (hok2 u hu).1
  obtain ⟨X, hX⟩ : ∃ X, X = us.map Au.row := ⟨_, rfl⟩
  have hXl : ar.len X = (us.length : Int) := by rw [lenIs har, hX, List.length_map]
  have hub := us_bulk us hok
  obtain ⟨N, hN⟩ : ∃ N, N = us.length + 1 := ⟨_, rfl⟩
  have e1 : ar.ib .add .i64 (ar.len X) 1 = (N : Int) := by rw [iSucc har hXl (by omega), hN]
  have m1 : ar.ib .add .i64 (ar.len X) 1 = (N : Int) ∧ ar.ib .add .i64 (ar.len X) 1 = (N : Int) ∧ 136 * N ≤ 281474976710656 ∧ N ≤ maxLen := ⟨e1, e1, by omega, by unfold maxLen; omega⟩
  have hXr : ∀ y ∈ X, rlen y = 34 := fun y hy => by
    rw [hX] at hy
    obtain ⟨u, _, rfl⟩ := List.mem_map.1 hy
    simp [Au.row, rlen, PS.len]
  have hcl : (ar.cpy (ar.rep N (auRow 0)) X).length = N := by
    rw [cpyIs har, repIs har, List.length_append, List.length_take, List.length_drop, List.length_replicate, hX, List.length_map]; omega
  have m2 : 0 ≤ ar.len X ∧ ar.len X < ((ar.cpy (ar.rep N (auRow 0)) X).length : Int) := by rw [hcl]; omega
  have hn : ar.nat (ar.len X) = us.length := by rw [natIs har, hXl, Int.toNat_natCast]
  have m3 : ar.nat (ar.len X) < (ar.cpy (ar.rep N (auRow 0)) X).length ∧ rlen (auRow 77) = 34 := ⟨by rw [hcl, hn]; omega, by simp [rlen, PS.len]⟩
  obtain ⟨MX, hMX⟩ : ∃ M, M = ar.setx (ar.cpy (ar.rep N (auRow 0)) X) (ar.nat (ar.len X)) (auRow 77) := ⟨_, rfl⟩
  have eMX : MX = X ++ [auRow 77] := by
    rw [hMX, setxIs har, cpyIs har, repIs har, hn, List.length_replicate, List.take_of_length_le (by rw [hX, List.length_map]; omega), hX, List.length_map, List.drop_replicate, show N - us.length = 0 + 1 by omega, List.replicate_succ, List.set_append_right _ _ (by rw [List.length_map]; omega), List.length_map, Nat.sub_self]; rfl
  have hMl : MX.length = us.length + 1 := by rw [eMX, hX]; simp
  have eA : ar.mid MX 0 (ar.nat (ar.len X)) = X := by
    rw [midIs har, hn, eMX, List.drop_zero, List.take_left' (by rw [hX, List.length_map])]
  have m4 : 0 ≤ ar.len X ∧ ar.len X ≤ (MX.length : Int) := by rw [hMl]; omega
  have m5 : 0 ≤ ar.len X ∧ ar.len X < (MX.length : Int) := by rw [hMl]; omega
  have rM : MX[ar.nat (ar.len X)]? = some (auRow 77) := by
    rw [hn, eMX, List.getElem?_append_right (by rw [hX, List.length_map]; exact Nat.le_refl _), hX, List.length_map, Nat.sub_self]; rfl
  obtain ⟨J, e, hown, hfrz, hJb⟩ : ∃ (J : It) (e : Int), authItO us = [.ao J.orow, .s (.v (.int .i64 e))] ∧ authItR us = [.a J.row, .s (.v (.int .i64 e))] ∧ J.bulk ≤ 2 ^ 30 := by
    unfold authItO authItR
    by_cases hw : wideU us = true
    · exact ⟨.zero, 141, by rw [if_pos hw], by rw [if_pos hw], by decide⟩
    · refine ⟨_, _, by rw [if_neg hw], by rw [if_neg hw], ?_⟩
      split
      · simp only [It.lst, It.bulk, List.length_nil]; omega
      · decide
  obtain ⟨jl, jd, jsd, ji, jss⟩ := J
  obtain ⟨D, hD⟩ : ∃ D, D = jd.map b8 := ⟨_, rfl⟩
  obtain ⟨I, hI⟩ : ∃ I, I = orowsOf ji := ⟨_, rfl⟩
  obtain ⟨I2, hI2⟩ : ∃ I, I = rowsOf ji := ⟨_, rfl⟩
  have fD : ar.frz D = D := by rw [hD, frzB har]
  have fI : ar.frz I = rowsOf (strips ji) := by rw [hI, frzO har]
  have f0 := frz0 har
  have ho2 : (It.mk jl jd jsd ji jss).orow = [.c (.v (.bool jl)), .c (oB D), .c (oI I)] := by rw [hD, hI]; rfl
  have hf2 : (It.mk jl jd jsd ji jss).row = [.c (.v (.bool jl)), .c (.sl D jsd), .c (.sl I2 jss)] := by rw [hD, hI2]; rfl
  rw [ho2] at hown
  rw [hf2] at hfrz
  have callA : ∀ (Γ : Ctx) (d' : Nat) (k : List PR → Prop) (S : List (List PS)), Γ = ctx Try.prog d' → k [.ao [.c (.v (.bool jl)), .c (oB D), .c (oI I)], .s (.v (.int .i64 e))] → Γ.g 14 [.s (.sl (ar.mid MX 0 (ar.nat (ar.len X))) S)] k := fun Γ d' k S hΓ hk =>
    call_by' hΓ authItem_own ⟨us, S, by rw [eA, hX], hok, by omega, by rw [hown]; exact hk⟩
  have callR : ∀ (Γ : Ctx) (d' : Nat) (k : List PR → Prop), Γ = ctx Try.prog d' → k [.a [.c (.v (.bool jl)), .c (.sl D jsd), .c (.sl I2 jss)], .s (.v (.int .i64 e))] → Γ.g 15 [.s (.sl X s)] k := fun Γ d' k hΓ hk =>
    call_by' hΓ refAuthItem_sound ⟨us, s, by rw [hX], hok, by omega, by rw [hfrz]; exact hk⟩
  have hst : (It.mk jl jd jsd ji jss).strip.row = [.c (.v (.bool jl)), .c (.sl (ar.frz D) (ar.frz [])), .c (.sl (ar.frz I) (ar.frz []))] := by rw [fD, fI, f0, hD]; rfl
  have hstt : (It.mk jl jd jsd ji jss).strip.strip = (It.mk jl jd jsd ji jss).strip := strip2 _
  have callS : ∀ (Γ : Ctx) (d' : Nat) (k : List PR → Prop), Γ = ctx Try.prog d' → k [.s (.v (.bool true))] → Γ.g 9 [.a [.c (.v (.bool jl)), .c (.sl (ar.frz D) (ar.frz [])), .c (.sl (ar.frz I) (ar.frz []))], .a [.c (.v (.bool jl)), .c (.sl D jsd), .c (.sl I2 jss)]] k := fun Γ d' k hΓ hk =>
    call_by' hΓ (same_sound (2 ^ 30)) ⟨_, It.mk jl jd jsd ji jss, by rw [← hst, hf2], hstt, by rw [strip_bulk]; exact hJb, by decide, hk⟩
  have nT : ar.nb true = false := by rw [har]; rfl
  have callN : ∀ (Γ : Ctx) (d' : Nat) (k : List PR → Prop), Γ = ctx Try.prog d' → k [.s (.v (.int .i64 e))] → Γ.g 10 [.s (.v (.int .i64 e))] k := fun Γ d' k hΓ hk => call_by' hΓ num14_sound ⟨e, rfl, hk⟩
  have callM : ∀ (Γ : Ctx) (d' : Nat) (k : List PR → Prop) (S : List (List PS)), Γ = ctx Try.prog d' → k [.s (.v (.bool true))] → Γ.g 16 [.s (.sl (ar.mid MX 0 (ar.nat (ar.len X))) S), .s (.sl X s)] k := fun Γ d' k S hΓ hk =>
    call_by' hΓ sameAuths_sound ⟨us, S, s, by rw [eA, hX], by omega, hok2, hk⟩
  have nE : ar.cb .neq e e = false := dNne har rfl
  have callP : ∀ (Γ : Ctx) (d' : Nat) (k : List PR → Prop), Γ = ctx Try.prog d' → k [] → Γ.e 13 [.ao [.c (.v (.bool jl)), .c (oB D), .c (oI I)]] k := fun Γ d' k hΓ hk => eat_by hΓ (spoil_eats (2 ^ 30)) ⟨It.mk jl jd jsd ji jss, by rw [ho2], hJb, by decide, hk⟩
  have hMXc := hMX
  conv at hMXc => rhs; cbv
  rw [← hX] at hargs
  subst hargs
  conv => cbv
  refine ⟨N, fun _ => m1, ?_⟩
  conv => cbv
  refine ⟨fun _ => hXr, fun _ => m2, fun _ => m3, ?_⟩
  conv => cbv
  rw [← hMXc]
  refine .inr ⟨fun _ => m4, ?_⟩
  refine .inl (callA _ _ _ _ hΓ ?_)
  conv => cbv
  refine .inl (callA _ _ _ _ hΓ ?_)
  conv => cbv
  refine .inl (callR _ _ _ hΓ ?_)
  conv => cbv
  refine .inr (.inl (callS _ _ _ hΓ ⟨⟨trivial, trivial⟩, ?_⟩))
  conv => cbv
  refine ⟨fun _ => ?_, fun h => absurd (nT.symm.trans h) (by decide)⟩
  conv => cbv
  refine .inl (callN _ _ _ hΓ ?_)
  conv => cbv
  refine onF nE ?_
  conv => cbv
  refine .inr (.inr (.inr ⟨_, loosRs_refl _, callP _ _ _ hΓ ?_⟩))
  conv => cbv
  refine ⟨by rw [har]; kernel_rfl, ?_⟩
  refine callS _ _ _ hΓ ⟨⟨trivial, trivial⟩, ?_⟩
  conv => cbv
  refine ⟨fun _ => ?_, fun h => absurd h (by decide)⟩
  conv => cbv
  refine callM _ _ _ _ hΓ ?_
  conv => cbv
  refine ⟨fun _ => ?_, fun h => absurd h (by decide)⟩
  conv => cbv
  refine ⟨fun _ => m5, _, rM, ?_⟩
  conv => cbv
  refine ⟨true, fun _ => ⟨mark_ok, mark_ok, eqVals_self (l := []) mark_ok⟩, ?_⟩
  conv => cbv
  exact hk
end Go.Eng
