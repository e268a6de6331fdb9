/-
  rlp.size: how many bytes an item takes. Condition: at most 2^40 nodes and bytes.
  rlp.sound, Check, Size; access.fitting. Condition: at most 2^40 nodes and bytes.
  rlp.twin, List: items in new memory; a list as an item. Condition: at most 2^40 nodes and bytes.
  rlp.GetList, GetFixed. Conditions: at most 2^40 nodes and bytes.
  access.Item: the item of an access list. Condition: sizes up to 2^40.
-/
import Derived.Test.YtnaafeeloicklaaDoorRA
namespace Go.Eng
open Go Go.Proofs
set_option maxRecDepth 100000
set_option maxHeartbeats 4000000
set_option linter.unusedVariables false

mutual
def sz : It → Nat
  | .mk true _ _ its _ => (hd 192 (szs its)).length + szs its
  | .mk false d _ _ _ => match d with
    | [b] => if b < 128 then 1 else 2
    | d => (hd 128 d.length).length + d.length
def szs : List It → Nat
  | [] => 0
  | x :: xs => sz x + szs xs
end

theorem bl_le64' {n : Nat} (h : n < 18446744073709551616) : blen n ≤ 8 := by have := bl_le h; unfold blen; omega
theorem hd_len {f : Int} {n : Nat} (h : n < 18446744073709551616) : (hd f n).length ≤ 9 := by
  unfold hd; split
  · simp
  · rw [List.length_cons, be_length]; have := bl_le64' h; omega

mutual
theorem sz_le : ∀ x : It, x.bulk ≤ 2 ^ 40 → sz x ≤ 10 * x.bulk
  | .mk true d sd its ss, h => by
    simp only [It.bulk] at h
    have h1 := szs_le its (by omega)
    have h2 := hd_len (f := 192) (n := szs its) (by omega)
    simp only [sz, It.bulk]; omega
  | .mk false d sd its ss, h => by
    simp only [It.bulk] at h
    have h2 := hd_len (f := 128) (n := d.length) (by omega)
    simp only [sz, It.bulk]
    split
    · split <;> simp <;> omega
    · omega
theorem szs_le : ∀ xs : List It, bulks xs ≤ 2 ^ 40 → szs xs ≤ 10 * bulks xs
  | [], _ => by simp [szs]
  | x :: xs, h => by
    simp only [bulks] at h
    have h1 := sz_le x (by omega)
    have h2 := szs_le xs (by omega)
    simp only [szs, bulks]; omega
end
theorem szs_append (a b : List It) : szs (a ++ b) = szs a + szs b := by
  induction a with
  | nil => simp [szs]
  | cons x a ih => simp only [List.cons_append, szs, ih]; omega
theorem bulks_take (its : List It) (p : Nat) : bulks (its.take p) ≤ bulks its := by
  have := bulks_append (its.take p) (its.drop p)
  rw [List.take_append_drop] at this
  omega

def SizeC (B : Nat) (args : List PR) (k : List PR → Prop) : Prop := ∃ it : It, args = [.a it.row] ∧ it.bulk ≤ B ∧ B ≤ 2 ^ 40 ∧ k [.s (.v (.int .i64 (sz it)))]

theorem size_step (B : Nat) (ih : Sound Tryd.prog 54 (SizeC B)) : Sound Tryd.prog 54 (SizeC (B + 1)) := by
  refine Sound.of_body tt_ok ent_ok Tryd.func54 rfl ?_
  rintro ar har Γ hΓ args k ⟨⟨l, d, sd, its, ss⟩, hargs, hb, hB, hk⟩
  obtain ⟨D, hD⟩ : ∃ D, D = d.map b8 := ⟨_, rfl⟩
  obtain ⟨I, hI⟩ : ∃ I, I = rowsOf its := ⟨_, rfl⟩
  have hrow : (It.mk l d sd its ss).row = [.c (.v (.bool l)), .c (.sl D sd), .c (.sl I ss)] := by rw [hD, hI]; rfl
  have hDl : ar.len D = (d.length : Int) := by rw [lenIs har, hD, List.length_map]
  have hIl : ar.len I = (its.length : Int) := by rw [lenIs har, hI, rowsOf_length]
  have n1 : ar.nb true = false := by rw [har]; rfl
  have n2 : ar.nb false = true := by rw [har]; rfl
  simp only [It.bulk] at hb
  have hil := bulks_len its
  rw [hrow] at hargs
  subst hargs
  cases l with
  | false =>
    conv => cbv
    refine onT n2 ?_
    obtain ⟨H, hH⟩ : ∃ H, H = (hd 128 d.length).map b8 := ⟨_, rfl⟩
    have hhl := hd_len (f := 128) (n := d.length) (by omega)
    have hHl : ar.len H = ((hd 128 d.length).length : Int) := by rw [lenIs har, hH, List.length_map]
    have hhead : ∀ (Γ : Ctx) (d' : Nat) (k : List PR → Prop), Γ = ctx Tryd.prog d' → k [.s (.sl H [])] → Γ.g 55 [.s (.v (.int .u8 128)), .s (.v (.int .i64 (ar.len D)))] k := fun Γ d' k hΓ hk => call_by' hΓ head_sound ⟨128, d.length, by rw [hDl], by omega, by omega, by omega, by rw [← hH]; exact hk⟩
    have hsum : ar.ib .add .i64 (ar.len H) (ar.len D) = (((hd 128 d.length).length + d.length : Nat) : Int) := by rw [hHl, hDl, iAdd har (by omega)]; omega
    have long : (∀ b, d ≠ [b]) → k [.s (.v (.int .i64 (ar.ib .add .i64 (ar.len H) (ar.len D))))] := fun h => by
      rw [hsum]
      have : sz (.mk false d sd its ss) = (hd 128 d.length).length + d.length := by
        simp only [sz]
        try (split; exact absurd rfl (h _)); rfl
      rw [← this]; exact hk
    conv => cbv
    refine ⟨fun h => ?_, fun h => ?_⟩
    · have g := cEq har (a := ar.len D) h
      obtain ⟨b, hdb⟩ : ∃ b, d = [b] := by
        match d, (show d.length = 1 by omega) with
        | [b], _ => exact ⟨b, rfl⟩
      have hDb : D = [[.c (.v (.int .u8 b))]] := by rw [hD, hdb]; rfl
      have hD0 : D[(0 : Int).toNat]? = some [.c (.v (.int .u8 b))] := by rw [hDb]; rfl
      conv => cbv
      refine ⟨_, by omega, hD0, rfl, ?_⟩
      conv => cbv
      refine ⟨fun h2 => ?_, fun h2 => ?_⟩
      · have g2 := cLt har h2
        have : sz (.mk false d sd its ss) = 1 := by rw [hdb]; simp only [sz]; rw [if_pos g2]
        rw [this] at hk
        conv => cbv
        exact hk
      · have g2 := cNlt har h2
        have e2 : sz (.mk false d sd its ss) = (hd 128 d.length).length + d.length := by rw [hdb]; simp only [sz]; rw [if_neg (by omega)]; rfl
        rw [e2, ← hsum] at hk
        conv => cbv
        refine ⟨by rw [har]; kernel_rfl, ?_⟩
        refine hhead _ _ _ hΓ ?_
        conv => cbv
        exact hk
    · have g := cNeq har (a := ar.len D) h
      have hl := long (fun b hb => by rw [hb] at hDl; rw [hDl] at g; exact g rfl)
      conv => cbv
      refine ⟨by rw [har]; kernel_rfl, ?_⟩
      refine hhead _ _ _ hΓ ?_
      conv => cbv
      exact hl
  | true =>
    obtain ⟨n, hn⟩ : ∃ n, n = szs its := ⟨_, rfl⟩
    have hnle := szs_le its (by omega)
    rw [← hn] at hnle
    obtain ⟨H, hH⟩ : ∃ H, H = (hd 192 n).map b8 := ⟨_, rfl⟩
    have hhl := hd_len (f := 192) (n := n) (by omega)
    have hHl : ar.len H = ((hd 192 n).length : Int) := by rw [lenIs har, hH, List.length_map]
    have hkk : sz (.mk true d sd its ss) = (hd 192 n).length + n := by simp only [sz]; rw [← hn]
    rw [hkk] at hk
    conv => cbv
    refine onF n1 ?_
    conv => cbv
    refine .inr ⟨{ q : Nat × Int × Int // q.1 ≤ its.length ∧ q.2.1 = q.1 ∧ q.2.2 = (szs (its.take q.1) : Nat) }, fun q => ⟨mk 46 [(1, .s (.ptr 0 0)), (3, pint q.1.2.2), (30, .s (.p (.sl I ss))), (31, pint (ar.len I)), (32, pint q.1.2.1)], [.box [.c (.p (.v (.bool true))), .c (.p (.sl D sd)), .c (.p (.sl I ss))]]⟩,
      fun q => its.length - q.1.1, [], _, ⟨(0, 0, 0), Nat.zero_le _, rfl, rfl⟩, rfl, ?_, ?_⟩
    · conv => cbv
      simp
    · rintro ⟨⟨p, pi, acc⟩, hq⟩
      have hp : p ≤ its.length := hq.1
      have hpi : pi = (p : Int) := hq.2.1
      have hacc : acc = (szs (its.take p) : Nat) := hq.2.2
      dsimp only
      conv => cbv
      refine ⟨fun h => ?_, fun h => ?_⟩
      · have g := cLt har (b := ar.len I) h
        have hlt : p < its.length := by omega
        obtain ⟨x, hx⟩ : ∃ x, its[p]? = some x := ⟨_, List.getElem?_eq_getElem hlt⟩
        have hxb := bulk_get hx
        obtain ⟨l', d', sd', its', ss'⟩ := x
        obtain ⟨D', hD'⟩ : ∃ D', D' = d'.map b8 := ⟨_, rfl⟩
        obtain ⟨I', hI'⟩ : ∃ I', I' = rowsOf its' := ⟨_, rfl⟩
        have hrow' : (It.mk l' d' sd' its' ss').row = [.c (.v (.bool l')), .c (.sl D' sd'), .c (.sl I' ss')] := by rw [hD', hI']; rfl
        have rx : I[pi.toNat]? = some [.c (.v (.bool l')), .c (.sl D' sd'), .c (.sl I' ss')] := by rw [hI, hpi, Int.toNat_natCast, rowsOf_get hx, hrow']
        obtain ⟨z, hz⟩ : ∃ z : Int, z = (sz (.mk l' d' sd' its' ss') : Nat) := ⟨_, rfl⟩
        have hcall : ∀ (Γ : Ctx) (d'' : Nat) (k : List PR → Prop) (R : Prop), Γ = ctx Tryd.prog d'' → k [.s (.v (.int .i64 z))] → Γ.g 54 [.a [.c (.v (.bool l')), .c (.sl D' sd'), .c (.sl I' ss')]] k ∨ R := fun Γ d'' k R hΓ hk => call_by hΓ ih ⟨.mk l' d' sd' its' ss', by rw [hrow'], by omega, by omega, by rw [← hz]; exact hk⟩
        have htk : szs (its.take (p + 1)) = szs (its.take p) + sz (.mk l' d' sd' its' ss') := by rw [take_succ_get hx, szs_append]; simp [szs]
        have hacc2 : ar.ib .add .i64 acc z = (szs (its.take (p + 1)) : Nat) := by
          have h1 := szs_le (its.take (p + 1)) (by have := bulks_take its (p + 1); omega)
          have h2 := bulks_take its (p + 1)
          rw [iAdd har (by omega)]; omega
        conv => cbv
        refine ⟨_, by omega, rx, rfl, ?_⟩
        conv => cbv
        refine hcall _ _ _ _ hΓ ?_
        conv => cbv
        refine ⟨⟨(p + 1, ar.ib .add .i64 pi 1, ar.ib .add .i64 acc z), hlt, iSucc har hpi (by omega), hacc2⟩, ?_, ?_⟩
        · dsimp only
          conv => cbv
          simp
        · show its.length - (p + 1) < its.length - p
          omega
      · have g := cNlt har (b := ar.len I) h
        have hge : p = its.length := by omega
        rw [hge, List.take_length, ← hn] at hacc
        have hhead : ∀ (Γ : Ctx) (d' : Nat) (k : List PR → Prop) (R : Prop), Γ = ctx Tryd.prog d' → k [.s (.sl H [])] → Γ.g 55 [.s (.v (.int .u8 192)), .s (.v (.int .i64 acc))] k ∨ R := fun Γ d' k R hΓ hk => call_by hΓ head_sound ⟨192, n, by rw [hacc], by omega, by omega, by omega, by rw [← hH]; exact hk⟩
        have hsum : ar.ib .add .i64 (ar.len H) acc = (((hd 192 n).length + n : Nat) : Int) := by rw [hHl, hacc, iAdd har (by omega)]; omega
        rw [← hsum] at hk
        conv => cbv
        refine hhead _ _ _ _ hΓ ?_
        conv => cbv
        exact hk

theorem size_sound : ∀ B, Sound Tryd.prog 54 (SizeC B)
  | 0 => fun args k m W vs _ _ _ ⟨it, _, hb, _⟩ => by have := bulk_pos it; omega
  | B + 1 => size_step B (size_sound B)
end Go.Eng
namespace Go.Eng
open Go Go.Proofs
set_option maxRecDepth 100000
set_option maxHeartbeats 4000000
set_option linter.unusedVariables false

mutual
def okS : It → Bool
  | .mk true d _ its _ => decide (d.length = 0) && okSs its
  | .mk false _ _ its _ => decide (its.length = 0)
def okSs : List It → Bool
  | [] => true
  | x :: xs => okS x && okSs xs
end
mutual
def dep : It → Nat
  | .mk true _ _ its _ => depths its + 1
  | .mk false _ _ _ _ => 0
def depths : List It → Nat
  | [] => 0
  | x :: xs => max (dep x) (depths xs)
end
theorem okSs_append (a b : List It) : okSs (a ++ b) = (okSs a && okSs b) := by
  induction a with
  | nil => simp [okSs]
  | cons x a ih => simp only [List.cons_append, okSs, ih, Bool.and_assoc]
theorem deps_append (a b : List It) : depths (a ++ b) = max (depths a) (depths b) := by
  induction a with
  | nil => simp [depths]
  | cons x a ih => simp only [List.cons_append, depths, ih]; omega
theorem okSs_get {x : It} {p : Nat} : ∀ {its : List It}, its[p]? = some x → okS x = false → okSs its = false := fun {its} h ho => by
  have : its = its.take p ++ x :: its.drop (p + 1) := by
    obtain ⟨hlt, e⟩ := List.getElem?_eq_some_iff.1 h
    rw [← e, List.getElem_cons_drop, List.take_append_drop]
  rw [this, okSs_append]
  simp [okSs, ho]
mutual
theorem dep_le : ∀ x : It, dep x ≤ x.bulk
  | .mk true d sd its ss => by have := deps_le its; simp only [dep, It.bulk]; omega
  | .mk false d sd its ss => by simp [dep]
theorem deps_le : ∀ xs : List It, depths xs ≤ bulks xs
  | [] => by simp [depths]
  | x :: xs => by have := dep_le x; have := deps_le xs; simp only [depths, bulks]; omega
end

def SoundC (B : Nat) (args : List PR) (k : List PR → Prop) : Prop := ∃ it : It, args = [.a it.row] ∧ it.bulk ≤ B ∧ B ≤ 2 ^ 40 ∧ k [.s (.v (.int .i64 (if okS it then dep it else 0 : Nat))), .s (.v (.bool (okS it)))]

theorem soundI_step (B : Nat) (ih : Sound Tryd.prog 53 (SoundC B)) : Sound Tryd.prog 53 (SoundC (B + 1)) := by
  refine Sound.of_body tt_ok ent_ok Tryd.func53 rfl ?_
  rintro ar har Γ hΓ args k ⟨⟨l, d, sd, its, ss⟩, hargs, hb, hB, hk⟩
  obtain ⟨D, hD⟩ : ∃ D, D = d.map b8 := ⟨_, rfl⟩
  obtain ⟨I, hI⟩ : ∃ I, I = rowsOf its := ⟨_, rfl⟩
  obtain ⟨o, ho⟩ : ∃ o, o = (It.mk l d sd its ss).odd := ⟨_, rfl⟩
  have hrow : (It.mk l d sd its ss).row = [.c (.v (.bool l)), .c (.sl D sd), .c (.sl I ss)] := by rw [hD, hI]; rfl
  have hIl : ar.len I = (its.length : Int) := by rw [lenIs har, hI, rowsOf_length]
  have n1 : ar.nb true = false := by rw [har]; rfl
  have n2 : ar.nb false = true := by rw [har]; rfl
  have hodd : ∀ (Γ : Ctx) (d' : Nat) (k : List PR → Prop) (R : Prop), Γ = ctx Tryd.prog d' → k [.s (.v (.bool o))] → Γ.g 79 [.a [.c (.v (.bool l)), .c (.sl D sd), .c (.sl I ss)]] k ∨ R := fun Γ d' k R hΓ hk => call_by hΓ odd_sound ⟨.mk l d sd its ss, by rw [hrow], by rw [← ho]; exact hk⟩
  simp only [It.bulk] at hb
  have hil := bulks_len its
  rw [hrow] at hargs
  subst hargs
  have fail : okS (.mk l d sd its ss) = false → k [.s (.v (.int .i64 0)), .s (.v (.bool false))] := fun h => by
    rw [h] at hk; exact hk
  cases l with
  | false =>
    have ho' : o = decide (0 < its.length) := ho
    conv => cbv
    refine hodd _ _ _ _ hΓ ?_
    conv => cbv
    refine ⟨fun h => ?_, fun h => ?_⟩
    · have h : o = true := h
      rw [ho', decide_eq_true_eq] at h
      conv => cbv
      exact fail (by simp only [okS, decide_eq_false_iff_not]; omega)
    · have h : o = false := h
      rw [ho', decide_eq_false_iff_not] at h
      have h2 : okS (.mk false d sd its ss) = true := by simp only [okS, decide_eq_true_eq]; omega
      rw [h2] at hk
      conv => cbv
      refine onT n2 ?_
      conv => cbv
      exact hk
  | true =>
    have ho' : o = decide (0 < d.length) := ho
    conv => cbv
    refine hodd _ _ _ _ hΓ ?_
    conv => cbv
    refine ⟨fun h => ?_, fun h => ?_⟩
    · have h : o = true := h
      rw [ho', decide_eq_true_eq] at h
      conv => cbv
      exact fail (by simp only [okS, Bool.and_eq_false_iff, decide_eq_false_iff_not]; omega)
    · have h : o = false := h
      rw [ho', decide_eq_false_iff_not] at h
      have hd0 : d.length = 0 := by omega
      conv => cbv
      refine onF n1 ?_
      conv => cbv
      refine .inr ⟨{ q : Nat × Int × Int // q.1 ≤ its.length ∧ q.2.1 = q.1 ∧ q.2.2 = (depths (its.take q.1) : Nat) ∧ okSs (its.take q.1) = true }, fun q => ⟨mk 34 [(1, .s (.ptr 0 0)), (2, .s (.lit .i64 0)), (3, .s (.bl false)), (4, pint q.1.2.2), (15, .s (.p (.sl I ss))), (16, pint (ar.len I)), (17, pint q.1.2.1)], [.box [.c (.p (.v (.bool true))), .c (.p (.sl D sd)), .c (.p (.sl I ss))]]⟩,
        fun q => its.length - q.1.1, [], _, ⟨(0, 0, 0), Nat.zero_le _, rfl, rfl, rfl⟩, rfl, ?_, ?_⟩
      · conv => cbv
        simp
      · rintro ⟨⟨p, pi, acc⟩, hq⟩
        have hp : p ≤ its.length := hq.1
        have hpi : pi = (p : Int) := hq.2.1
        have hacc : acc = (depths (its.take p) : Nat) := hq.2.2.1
        have hoks : okSs (its.take p) = true := hq.2.2.2
        dsimp only
        conv => cbv
        refine ⟨fun h => ?_, fun h => ?_⟩
        · have g := cLt har (b := ar.len I) h
          have hlt : p < its.length := by omega
          obtain ⟨x, hx⟩ : ∃ x, its[p]? = some x := ⟨_, List.getElem?_eq_getElem hlt⟩
          have hxb := bulk_get hx
          obtain ⟨ok, hok⟩ : ∃ b, b = okS x := ⟨_, rfl⟩
          obtain ⟨dp, hdp⟩ : ∃ z : Int, z = (if okS x then dep x else 0 : Nat) := ⟨_, rfl⟩
          have htk : okSs (its.take (p + 1)) = (okSs (its.take p) && okS x) := by rw [take_succ_get hx, okSs_append]; simp [okSs]
          have htd : depths (its.take (p + 1)) = max (depths (its.take p)) (dep x) := by rw [take_succ_get hx, deps_append]; simp [depths]
          have hbad : ok = false → okS (.mk true d sd its ss) = false := fun h => by
            simp only [okS, okSs_get hx (by rw [← hok]; exact h), Bool.and_false]
          obtain ⟨l', d', sd', its', ss'⟩ := x
          obtain ⟨D', hD'⟩ : ∃ D', D' = d'.map b8 := ⟨_, rfl⟩
          obtain ⟨I', hI'⟩ : ∃ I', I' = rowsOf its' := ⟨_, rfl⟩
          have hrow' : (It.mk l' d' sd' its' ss').row = [.c (.v (.bool l')), .c (.sl D' sd'), .c (.sl I' ss')] := by rw [hD', hI']; rfl
          have rx : I[pi.toNat]? = some [.c (.v (.bool l')), .c (.sl D' sd'), .c (.sl I' ss')] := by rw [hI, hpi, Int.toNat_natCast, rowsOf_get hx, hrow']
          have hcall : ∀ (Γ : Ctx) (d'' : Nat) (k : List PR → Prop) (R : Prop), Γ = ctx Tryd.prog d'' → k [.s (.v (.int .i64 dp)), .s (.v (.bool ok))] → Γ.g 53 [.a [.c (.v (.bool l')), .c (.sl D' sd'), .c (.sl I' ss')]] k ∨ R := fun Γ d'' k R hΓ hk => call_by hΓ ih ⟨.mk l' d' sd' its' ss', by rw [hrow'], by omega, by omega, by rw [← hdp, ← hok]; exact hk⟩
          conv => cbv
          refine ⟨_, by omega, rx, rfl, ?_⟩
          conv => cbv
          refine hcall _ _ _ _ hΓ ?_
          conv => cbv
          refine ⟨fun h2 => ?_, fun h2 => ?_⟩
          · have g2 := nbT har h2
            conv => cbv
            exact fail (hbad g2)
          · have g2 := nbF har h2
            rw [← hok, g2, if_pos rfl] at hdp
            conv => cbv
            refine ⟨max acc dp, fun _ => rfl, ?_⟩
            obtain ⟨mx, hmx⟩ : ∃ mx, mx = max acc dp := ⟨_, rfl⟩
            rw [← hmx]
            conv => cbv
            refine ⟨⟨(p + 1, ar.ib .add .i64 pi 1, mx), hlt, iSucc har hpi (by omega), ?_, ?_⟩, ?_, ?_⟩
            · show mx = (depths (its.take (p + 1)) : Nat)
              rw [hmx, htd]; omega
            · show okSs (its.take (p + 1)) = true
              rw [htk, hoks, ← hok, g2]; rfl
            · dsimp only
              conv => cbv
              simp
            · show its.length - (p + 1) < its.length - p
              omega
        · have g := cNlt har (b := ar.len I) h
          have hge : p = its.length := by omega
          rw [hge, List.take_length] at hacc hoks
          have h2 : okS (.mk true d sd its ss) = true := by simp only [okS, hoks, Bool.and_true, decide_eq_true_eq]; exact hd0
          have hdl := deps_le its
          have e : ar.ib .add .i64 acc 1 = (dep (.mk true d sd its ss) : Nat) := by simp only [dep]; rw [iAdd har (by omega)]; omega
          rw [h2, if_pos rfl, ← e] at hk
          conv => cbv
          exact hk

theorem soundI_sound : ∀ B, Sound Tryd.prog 53 (SoundC B)
  | 0 => fun args k m W vs _ _ _ ⟨it, _, hb, _⟩ => by have := bulk_pos it; omega
  | B + 1 => soundI_step B (soundI_sound B)

def errOf (it : It) : Nat := if okS it then (if 1024 < dep it then 74 else if 16777216 < sz it then 2 else 0) else 78

theorem check_sound : Sound Tryd.prog 34 fun args k => ∃ it : It, args = [.a it.row] ∧ it.bulk ≤ 2 ^ 40 ∧ k [.s (.v (.int .i64 (errOf it)))] := by
  refine Sound.of_body tt_ok ent_ok Tryd.func34 rfl ?_
  rintro ar har Γ hΓ args k ⟨it, hargs, hb, hk⟩
  obtain ⟨ok, hok⟩ : ∃ b, b = okS it := ⟨_, rfl⟩
  obtain ⟨dp, hdp⟩ : ∃ z : Int, z = (if okS it then dep it else 0 : Nat) := ⟨_, rfl⟩
  obtain ⟨z, hz⟩ : ∃ z : Int, z = (sz it : Nat) := ⟨_, rfl⟩
  obtain ⟨e, he⟩ : ∃ z : Int, z = (errOf it : Nat) := ⟨_, rfl⟩
  rw [← he] at hk
  obtain ⟨A, hA⟩ : ∃ A, A = it.row := ⟨_, rfl⟩
  have hcall : ∀ (Γ : Ctx) (d'' : Nat) (k : List PR → Prop) (R : Prop), Γ = ctx Tryd.prog d'' → k [.s (.v (.int .i64 dp)), .s (.v (.bool ok))] → Γ.g 53 [.a A] k ∨ R := fun Γ d'' k R hΓ hk => call_by hΓ (soundI_sound (2 ^ 40)) ⟨it, by rw [hA], hb, by omega, by rw [← hdp, ← hok]; exact hk⟩
  have hcall2 : ∀ (Γ : Ctx) (d'' : Nat) (k : List PR → Prop) (R : Prop), Γ = ctx Tryd.prog d'' → k [.s (.v (.int .i64 z))] → Γ.g 54 [.a A] k ∨ R := fun Γ d'' k R hΓ hk => call_by hΓ (size_sound (2 ^ 40)) ⟨it, by rw [hA], hb, by omega, by rw [← hz]; exact hk⟩
  have hrow : ∃ (a : Bool) (b c : List (List PS) × List (List PS)), A = [.c (.v (.bool a)), .c (.sl b.1 b.2), .c (.sl c.1 c.2)] := by
    obtain ⟨l, d, sd, its, ss⟩ := it
    exact ⟨l, (_, _), (_, _), by rw [hA]; rfl⟩
  obtain ⟨a, ⟨b1, b2⟩, ⟨c1, c2⟩, hA2⟩ := hrow
  rw [← hA, hA2] at hargs
  rw [hA2] at hcall hcall2
  clear hA hA2
  subst hargs
  conv => cbv
  refine hcall _ _ _ _ hΓ ?_
  conv => cbv
  refine ⟨fun h => ?_, fun h => ?_⟩
  · have g := nbT har h
    have e1 : e = 78 := by rw [he, errOf, ← hok, g]; rfl
    rw [e1] at hk
    conv => cbv
    exact hk
  · have g := nbF har h
    rw [← hok, g, if_pos rfl] at hdp
    conv => cbv
    refine ⟨fun h => ?_, fun h => ?_⟩
    · have g2 := cGt har h
      have e1 : e = 74 := by rw [he, errOf, ← hok, g, if_pos rfl, if_pos (by omega)]; rfl
      rw [e1] at hk
      conv => cbv
      exact hk
    · have g2 := cNgt har h
      conv => cbv
      refine hcall2 _ _ _ _ hΓ ?_
      conv => cbv
      refine ⟨fun h => ?_, fun h => ?_⟩
      · have g3 := cGt har h
        have e1 : e = 2 := by rw [he, errOf, ← hok, g, if_pos rfl, if_neg (by omega), if_pos (by omega)]; rfl
        rw [e1] at hk
        conv => cbv
        exact hk
      · have g3 := cNgt har h
        have e1 : e = 0 := by rw [he, errOf, ← hok, g, if_pos rfl, if_neg (by omega), if_neg (by omega)]; rfl
        rw [e1] at hk
        conv => cbv
        exact hk

theorem row3 (it : It) : ∃ (a : Bool) (b c : List (List PS) × List (List PS)), it.row = [.c (.v (.bool a)), .c (.sl b.1 b.2), .c (.sl c.1 c.2)] := by
  obtain ⟨l, d, sd, its, ss⟩ := it
  exact ⟨l, (_, _), (_, _), rfl⟩

theorem rsize_sound : Sound Tryd.prog 44 fun args k => ∃ it : It, args = [.a it.row] ∧ it.bulk ≤ 2 ^ 40 ∧ k [.s (.v (.int .i64 (if errOf it = 0 then sz it else 0 : Nat))), .s (.v (.int .i64 (errOf it)))] := by
  refine Sound.of_body tt_ok ent_ok Tryd.func44 rfl ?_
  rintro ar har Γ hΓ args k ⟨it, hargs, hb, hk⟩
  obtain ⟨z, hz⟩ : ∃ z : Int, z = (sz it : Nat) := ⟨_, rfl⟩
  obtain ⟨e, he⟩ : ∃ z : Int, z = (errOf it : Nat) := ⟨_, rfl⟩
  obtain ⟨A, hA⟩ : ∃ A, A = it.row := ⟨_, rfl⟩
  have hcall : ∀ (Γ : Ctx) (d'' : Nat) (k : List PR → Prop) (R : Prop), Γ = ctx Tryd.prog d'' → k [.s (.v (.int .i64 e))] → Γ.g 34 [.a A] k ∨ R := fun Γ d'' k R hΓ hk => call_by hΓ check_sound ⟨it, by rw [hA], hb, by rw [← he]; exact hk⟩
  have hcall2 : ∀ (Γ : Ctx) (d'' : Nat) (k : List PR → Prop) (R : Prop), Γ = ctx Tryd.prog d'' → k [.s (.v (.int .i64 z))] → Γ.g 54 [.a A] k ∨ R := fun Γ d'' k R hΓ hk => call_by hΓ (size_sound (2 ^ 40)) ⟨it, by rw [hA], hb, by omega, by rw [← hz]; exact hk⟩
  obtain ⟨a, ⟨b1, b2⟩, ⟨c1, c2⟩, hA2⟩ := row3 it
  rw [← hA] at hA2
  rw [← hA, hA2] at hargs
  rw [hA2] at hcall hcall2
  clear hA hA2
  rw [← he] at hk
  subst hargs
  conv => cbv
  refine hcall _ _ _ _ hΓ ?_
  conv => cbv
  refine ⟨fun h => ?_, fun h => ?_⟩
  · have g := cNe har h
    rw [if_neg (by omega)] at hk
    conv => cbv
    exact hk
  · have g := cNne har h
    rw [if_pos (by omega), ← hz, g] at hk
    conv => cbv
    refine hcall2 _ _ _ _ hΓ ?_
    conv => cbv
    exact hk

def It.zero : It := .mk false [] [] [] []

theorem fitting_sound : Sound Tryd.prog 84 fun args k => ∃ it : It, args = [.a it.row] ∧ it.bulk ≤ 2 ^ 40 ∧ k [.a (if errOf it = 0 then it else .zero).row, .s (.v (.int .i64 (if errOf it = 0 then 0 else 2)))] := by
  refine Sound.of_body tt_ok ent_ok Tryd.func84 rfl ?_
  rintro ar har Γ hΓ args k ⟨it, hargs, hb, hk⟩
  obtain ⟨z, hz⟩ : ∃ z : Int, z = (if errOf it = 0 then sz it else 0 : Nat) := ⟨_, rfl⟩
  obtain ⟨e, he⟩ : ∃ z : Int, z = (errOf it : Nat) := ⟨_, rfl⟩
  obtain ⟨A, hA⟩ : ∃ A, A = it.row := ⟨_, rfl⟩
  have hcall : ∀ (Γ : Ctx) (d'' : Nat) (k : List PR → Prop) (R : Prop), Γ = ctx Tryd.prog d'' → k [.s (.v (.int .i64 z)), .s (.v (.int .i64 e))] → Γ.g 44 [.a A] k ∨ R := fun Γ d'' k R hΓ hk => call_by hΓ rsize_sound ⟨it, by rw [hA], hb, by rw [← hz, ← he]; exact hk⟩
  obtain ⟨a, ⟨b1, b2⟩, ⟨c1, c2⟩, hA2⟩ := row3 it
  rw [hA2] at hargs
  rw [hA, hA2] at hcall
  subst hargs
  conv => cbv
  refine hcall _ _ _ _ hΓ ?_
  conv => cbv
  refine ⟨fun h => ?_, fun h => ?_⟩
  · have g := cNe har h
    have hk2 : k [.a It.zero.row, .s (.v (.int .i64 2))] := by
      rw [if_neg (by omega), if_neg (by omega)] at hk; exact hk
    conv => cbv
    exact hk2
  · have g := cNne har h
    rw [if_pos (by omega), if_pos (by omega), hA2] at hk
    conv => cbv
    exact hk
end Go.Eng
namespace Go.Eng
open Go Go.Proofs
set_option maxRecDepth 100000
set_option maxHeartbeats 4000000
set_option linter.unusedVariables false

theorem rows_len (its : List It) : ∀ y ∈ rowsOf its, rlen y = 3 := fun y hy => by
  rw [rowsOf_map, List.mem_map] at hy
  obtain ⟨x, _, rfl⟩ := hy
  exact It.row_len x

def TwinC (f : Nat) (B : Nat) (args : List PR) (k : List PR → Prop) : Prop := ∃ (its : List It) (ss : List (List PS)), args = [.s (.sl (rowsOf its) ss)] ∧ bulks its ≤ B ∧ B ≤ 2 ^ 40 ∧ k [.s (.sl (rowsOf (strips its)) [])]

theorem twinI_step (B : Nat) (ih : ∀ B', B' < B → Sound Tryd.prog 36 (TwinC 0 B')) : Sound Tryd.prog 36 (TwinC 0 B) := by
  refine Sound.of_body tt_ok ent_ok Tryd.func36 rfl ?_
  rintro ar har Γ hΓ args k ⟨its, ss, hargs, hb, hB, hk⟩
  obtain ⟨I, hI⟩ : ∃ I, I = rowsOf its := ⟨_, rfl⟩
  have hIl : ar.len I = (its.length : Int) := by rw [lenIs har, hI, rowsOf_length]
  have hil := bulks_len its
  rw [← hI] at hargs
  subst hargs
  conv => cbv
  refine .inr ⟨{ q : Nat × Int × List (List PS) // q.1 ≤ its.length ∧ q.2.1 = q.1 ∧ q.2.2 = rowsOf (strips (its.take q.1)) },
    fun q => ⟨mk 26 [(2, .s .nil), (3, .s (.own 0)), (6, .s (.p (.sl I ss))), (7, pint (ar.len I)), (8, pint q.1.2.1)], [.arr q.1.2.2 51 3 56 true]⟩,
    fun q => its.length - q.1.1, [.slot 3 51], _, ⟨(0, 0, []), Nat.zero_le _, rfl, rfl⟩, rfl, ?_, ?_⟩
  · conv => cbv
    simp
  · rintro ⟨⟨p, pi, Z⟩, hq⟩
    have hp : p ≤ its.length := hq.1
    have hpi : pi = (p : Int) := hq.2.1
    have hZ : Z = rowsOf (strips (its.take p)) := hq.2.2
    dsimp only
    conv => cbv
    refine ⟨fun h => ?_, fun h => ?_⟩
    · have g := cLt har (b := ar.len I) h
      have hlt : p < its.length := by omega
      obtain ⟨x, hx⟩ : ∃ x, its[p]? = some x := ⟨_, List.getElem?_eq_getElem hlt⟩
      have hxb := bulk_get hx
      obtain ⟨l', d', sd', its', ss'⟩ := x
      have hxb2 : 1 + d'.length + bulks its' ≤ bulks its := hxb
      obtain ⟨D', hD'⟩ : ∃ D', D' = d'.map b8 := ⟨_, rfl⟩
      obtain ⟨I', hI'⟩ : ∃ I', I' = rowsOf its' := ⟨_, rfl⟩
      obtain ⟨I2, hI2⟩ : ∃ I', I' = rowsOf (strips its') := ⟨_, rfl⟩
      have hrow' : (It.mk l' d' sd' its' ss').row = [.c (.v (.bool l')), .c (.sl D' sd'), .c (.sl I' ss')] := by rw [hD', hI']; rfl
      have rx : I[pi.toNat]? = some [.c (.v (.bool l')), .c (.sl D' sd'), .c (.sl I' ss')] := by rw [hI, hpi, Int.toNat_natCast, rowsOf_get hx, hrow']
      have hZ2 : ar.app Z [[.c (.v (.bool l')), .c (.sl D' []), .c (.sl I2 [])]] = rowsOf (strips (its.take (p + 1))) := by
        rw [appIs har, hZ, take_succ_get hx, strips_append, rowsOf_append, hD', hI2]; rfl
      have hZl : Z.length = p := by rw [hZ, rowsOf_length, strips_map, List.length_map, List.length_take]; omega
      have callC : ∀ (Γ : Ctx) (d'' : Nat) (k : List PR → Prop), Γ = ctx Tryd.prog d'' → k [.s (.sl D' [])] → Γ.g 56 [.s (.sl D' sd')] k := fun Γ d'' k hΓ hk => call_by' hΓ clone_sound ⟨d', sd', by rw [hD'], by omega, by rw [← hD']; exact hk⟩
      have callT : ∀ (Γ : Ctx) (d'' : Nat) (k : List PR → Prop), Γ = ctx Tryd.prog d'' → k [.s (.sl I2 [])] → Γ.g 36 [.s (.sl I' ss')] k := fun Γ d'' k hΓ hk => call_by' hΓ (ih (bulks its') (by omega)) ⟨its', ss', by rw [hI'], Nat.le_refl _, by omega, by rw [← hI2]; exact hk⟩
      have s1 : (Z.length + 1) * 56 ≤ 140737488355328 ∧ ∀ y ∈ [[PS.c (.v (.bool l')), .c (.sl D' []), .c (.sl I2 [])]], rlen y = 3 := ⟨by omega, by simp [rlen, PS.len]⟩
      conv => cbv
      refine ⟨_, by omega, rx, rfl, ?_⟩
      conv => cbv
      refine ⟨by rw [har]; kernel_rfl, ?_⟩
      refine callC _ _ _ hΓ ?_
      conv => cbv
      refine callT _ _ _ hΓ ?_
      conv => cbv
      refine ⟨fun _ => s1, ?_⟩
      refine ⟨⟨(p + 1, ar.ib .add .i64 pi 1, ar.app Z [[.c (.v (.bool l')), .c (.sl D' []), .c (.sl I2 [])]]), hlt, iSucc har hpi (by omega), hZ2⟩, ?_, ?_⟩
      · dsimp only
        conv => cbv
        simp
      · show its.length - (p + 1) < its.length - p
        omega
    · have g := cNlt har (b := ar.len I) h
      have hge : p = its.length := by omega
      rw [hge, List.take_length] at hZ
      rw [← hZ] at hk
      conv => cbv
      exact hk

theorem twinI_sound : ∀ B, Sound Tryd.prog 36 (TwinC 0 B) := fun B => by
  induction B using Nat.strongRecOn with
  | _ B ih => exact twinI_step B ih

theorem list_sound : Sound Tryd.prog 19 fun args k => ∃ (its : List It) (ss : List (List PS)), args = [.s (.sl (rowsOf its) ss)] ∧ bulks its ≤ 2 ^ 40 ∧ k [.a (It.lst (strips its)).row] := by
  refine Sound.of_body tt_ok ent_ok Tryd.func19 rfl ?_
  rintro ar har Γ hΓ args k ⟨its, ss, hargs, hb, hk⟩
  obtain ⟨I, hI⟩ : ∃ I, I = rowsOf its := ⟨_, rfl⟩
  obtain ⟨J, hJ⟩ : ∃ J, J = rowsOf (strips its) := ⟨_, rfl⟩
  have hr : (It.lst (strips its)).row = [.c (.v (.bool true)), .c (.sl [] []), .c (.sl J [])] := by rw [hJ]; rfl
  rw [hr] at hk
  have callT : ∀ (Γ : Ctx) (d'' : Nat) (k : List PR → Prop) (R : Prop), Γ = ctx Tryd.prog d'' → k [.s (.sl J [])] → Γ.g 36 [.s (.sl I ss)] k ∨ R := fun Γ d'' k R hΓ hk => call_by hΓ (twinI_sound (2 ^ 40)) ⟨its, ss, by rw [hI], hb, by omega, by rw [← hJ]; exact hk⟩
  rw [← hI] at hargs
  subst hargs
  conv => cbv
  refine callT _ _ _ _ hΓ ?_
  conv => cbv
  exact hk
end Go.Eng
namespace Go.Eng
open Go Go.Proofs
set_option maxRecDepth 100000
set_option maxHeartbeats 4000000
set_option linter.unusedVariables false

/-- What kind says. -/
def It.ke (l : Bool) (it : It) : Int := if it.odd then 78 else if it.l = l then 0 else 75

def It.getList (it : It) : List It × Int := if it.ke true = 0 then (strips it.its, 0) else ([], it.ke true)
def fixR (n : Nat) (e : Int) (d : List Int) : List Int × Int := if e = 0 then (if d.length = n then (d, 0) else ([], 77)) else ([], e)
def It.getFixed (n : Nat) (it : It) : List Int × Int := fixR n (it.ke false) it.d

theorem getList_sound : Sound Tryd.prog 88 fun args k => ∃ (it : It), args = [.a it.row] ∧ it.bulk ≤ 2 ^ 40 ∧ k [.s (.sl (rowsOf it.getList.1) []), .s (.v (.int .i64 it.getList.2))] := by
  refine Sound.of_body tt_ok ent_ok Tryd.func88 rfl ?_
  rintro ar har Γ hΓ args k ⟨⟨l, d, sd, its, ss⟩, hargs, hb, hk⟩
  obtain ⟨e, he⟩ : ∃ e, e = (It.mk l d sd its ss).ke true := ⟨_, rfl⟩
  obtain ⟨D, hD⟩ : ∃ D, D = d.map b8 := ⟨_, rfl⟩
  obtain ⟨I, hI⟩ : ∃ I, I = rowsOf its := ⟨_, rfl⟩
  obtain ⟨J, hJ⟩ : ∃ J, J = rowsOf (strips its) := ⟨_, rfl⟩
  have hrow : (It.mk l d sd its ss).row = [.c (.v (.bool l)), .c (.sl D sd), .c (.sl I ss)] := by rw [hD, hI]; rfl
  have hb' : bulks its ≤ 2 ^ 40 := by simp only [It.bulk] at hb; omega
  have hkk : (e ≠ 0 → k [.s (.sl [] []), .s (.v (.int .i64 e))]) ∧ (e = 0 → k [.s (.sl J []), .s (.v (.int .i64 0))]) := by
    refine ⟨fun h => ?_, fun h => ?_⟩
    · simp only [It.getList, ← he, if_neg h] at hk; exact hk
    · simp only [It.getList, ← he, if_pos h] at hk; rw [hJ]; exact hk
  have callK : ∀ (Γ : Ctx) (d' : Nat) (k : List PR → Prop) (R : Prop), Γ = ctx Tryd.prog d' → k [.s (.v (.int .i64 e))] → Γ.g 87 [.a [.c (.v (.bool l)), .c (.sl D sd), .c (.sl I ss)], .s (.v (.bool true))] k ∨ R := fun Γ d' k R hΓ hk => call_by hΓ kind_sound ⟨.mk l d sd its ss, true, by rw [hrow], by rw [he] at hk; exact hk⟩
  have callT : ∀ (Γ : Ctx) (d'' : Nat) (k : List PR → Prop) (R : Prop), Γ = ctx Tryd.prog d'' → k [.s (.sl J [])] → Γ.g 36 [.s (.sl I ss)] k ∨ R := fun Γ d'' k R hΓ hk => call_by hΓ (twinI_sound (2 ^ 40)) ⟨its, ss, by rw [hI], hb', by omega, by rw [← hJ]; exact hk⟩
  rw [hrow] at hargs
  clear hk he hD hI hJ hrow hb hb'
  subst hargs
  conv => cbv
  refine callK _ _ _ _ hΓ ?_
  conv => cbv
  refine ⟨fun h1 => ?_, fun h1 => ?_⟩
  · have h2 := cNe har (b := 0) h1
    conv => cbv
    exact hkk.1 h2
  · have h2 := cNne har (b := 0) h1
    conv => cbv
    refine callT _ _ _ _ hΓ ?_
    conv => cbv
    exact hkk.2 h2

theorem getFixed_sound : Sound Tryd.prog 90 fun args k => ∃ (it : It) (n : Nat), args = [.a it.row, .s (.v (.int .i64 (n : Int)))] ∧ it.bulk ≤ 2 ^ 40 ∧ k [.s (.sl ((it.getFixed n).1.map b8) []), .s (.v (.int .i64 (it.getFixed n).2))] := by
  refine Sound.of_body tt_ok ent_ok Tryd.func90 rfl ?_
  rintro ar har Γ hΓ args k ⟨⟨l, d, sd, its, ss⟩, n, hargs, hb, hk⟩
  obtain ⟨e, he⟩ : ∃ e, e = (It.mk l d sd its ss).ke false := ⟨_, rfl⟩
  obtain ⟨D, hD⟩ : ∃ D, D = d.map b8 := ⟨_, rfl⟩
  obtain ⟨I, hI⟩ : ∃ I, I = rowsOf its := ⟨_, rfl⟩
  obtain ⟨m, hm⟩ : ∃ m : Int, m = (n : Int) := ⟨_, rfl⟩
  have hrow : (It.mk l d sd its ss).row = [.c (.v (.bool l)), .c (.sl D sd), .c (.sl I ss)] := by rw [hD, hI]; rfl
  have hd : d.length ≤ 2 ^ 40 := by simp only [It.bulk] at hb; omega
  have hDl : ar.len D = (d.length : Int) := by rw [lenIs har, hD, List.length_map]
  have hm0 : ar.cb .lss m 0 = false := dNlt har (by omega)
  have hk : k [.s (.sl ((fixR n e d).1.map b8) []), .s (.v (.int .i64 (fixR n e d).2))] := by rw [he]; exact hk
  have hkk : (e ≠ 0 → k [.s (.sl [] []), .s (.v (.int .i64 e))]) ∧ (e = 0 → ar.len D ≠ m → k [.s (.sl [] []), .s (.v (.int .i64 77))]) ∧ (e = 0 → ar.len D = m → k [.s (.sl D []), .s (.v (.int .i64 0))]) := by
    refine ⟨fun h => ?_, fun h h2 => ?_, fun h h2 => ?_⟩
    · simp only [fixR, if_neg h] at hk; exact hk
    · rw [hDl, hm] at h2
      have h3 : ¬ d.length = n := by omega
      simp only [fixR, if_pos h, if_neg h3] at hk; exact hk
    · rw [hDl, hm] at h2
      have h3 : d.length = n := by omega
      simp only [fixR, if_pos h, if_pos h3] at hk; rw [hD]; exact hk
  have callK : ∀ (Γ : Ctx) (d' : Nat) (k : List PR → Prop) (R : Prop), Γ = ctx Tryd.prog d' → k [.s (.v (.int .i64 e))] → Γ.g 87 [.a [.c (.v (.bool l)), .c (.sl D sd), .c (.sl I ss)], .s (.v (.bool false))] k ∨ R := fun Γ d' k R hΓ hk => call_by hΓ kind_sound ⟨.mk l d sd its ss, false, by rw [hrow], by rw [he] at hk; exact hk⟩
  have callC : ∀ (Γ : Ctx) (d'' : Nat) (k : List PR → Prop) (R : Prop), Γ = ctx Tryd.prog d'' → k [.s (.sl D [])] → Γ.g 56 [.s (.sl D sd)] k ∨ R := fun Γ d'' k R hΓ hk => call_by hΓ clone_sound ⟨d, sd, by rw [hD], hd, by rw [← hD]; exact hk⟩
  rw [hrow, ← hm] at hargs
  clear hk he hD hI hrow hb hd hm hDl
  subst hargs
  conv => cbv
  refine onF hm0 ?_
  conv => cbv
  refine callK _ _ _ _ hΓ ?_
  conv => cbv
  refine ⟨fun h1 => ?_, fun h1 => ?_⟩
  · have h2 := cNe har (b := 0) h1
    conv => cbv
    exact hkk.1 h2
  · have h2 := cNne har (b := 0) h1
    conv => cbv
    refine ⟨fun h3 => ?_, fun h3 => ?_⟩
    · have h4 := cNe har (a := ar.len D) (b := m) h3
      conv => cbv
      exact hkk.2.1 h2 h4
    · have h4 := cNne har (a := ar.len D) (b := m) h3
      conv => cbv
      refine callC _ _ _ _ hΓ ?_
      conv => cbv
      exact hkk.2.2 h2 h4
end Go.Eng
namespace Go.Eng
open Go Go.Proofs
set_option maxRecDepth 100000
set_option maxHeartbeats 4000000
set_option linter.unusedVariables false

def ksIts (ks : List (List Int)) : List It := ks.map It.txt
def entIt (a : List Int) (ks : List (List Int)) : It := It.lst [It.txt a, It.lst (ksIts ks)]
def Ent.it (e : Ent) : It := entIt e.a e.ks
def esIts (es : List Ent) : List It := es.map Ent.it

theorem strip_txt (d : List Int) : (It.txt d).strip = It.txt d := rfl
theorem strips_ks : ∀ ks : List (List Int), strips (ksIts ks) = ksIts ks
  | [] => rfl
  | k :: ks => by simp only [ksIts, List.map_cons, strips, strip_txt] at *; rw [show strips (ks.map It.txt) = ks.map It.txt from strips_ks ks]
theorem strip_lst (its : List It) : (It.lst its).strip = It.lst (strips its) := rfl
theorem strip_ent (a : List Int) (ks : List (List Int)) : (entIt a ks).strip = entIt a ks := by
  simp only [entIt, strip_lst, strips, strip_txt, strips_ks]
theorem strips_es : ∀ es : List Ent, strips (esIts es) = esIts es
  | [] => rfl
  | e :: es => by
    show e.it.strip :: strips (esIts es) = _
    rw [strips_es es, Ent.it, strip_ent]; rfl

def ksB (ks : List (List Int)) : Nat := bulks (ksIts ks)
def Ent.b (e : Ent) : Nat := e.it.bulk
theorem ent_bulk (a : List Int) (ks : List (List Int)) : (entIt a ks).bulk = 3 + a.length + ksB ks := by
  simp only [entIt, It.lst, It.txt, It.bulk, bulks, ksB, List.length_nil]; omega

theorem bytes_cells (ar : Ar) (har : ar = arS) (w : List Int) : ar.cells (u8s w) = w.map b8 := by
  rw [cellsIs har, u8s, List.map_map]; rfl

theorem accItem_sound : Sound Tryd.prog 66 fun args k => ∃ (es : List Ent) (s : List (List PS)), args = [.s (.sl (es.map Ent.row) s)] ∧ (∀ e ∈ es, e.a.length = 20 ∧ ∀ w ∈ e.ks, w.length = 32) ∧ bulks (esIts es) < 2 ^ 40 ∧
    k [.a (if errOf (It.lst (esIts es)) = 0 then It.lst (esIts es) else .zero).row, .s (.v (.int .i64 (if errOf (It.lst (esIts es)) = 0 then 0 else 2)))] := by
  refine Sound.of_body tt_ok ent_ok Tryd.func66 rfl ?_
  rintro ar har Γ hΓ args k ⟨es, s, hargs, hlen, hb, hk⟩
  obtain ⟨X, hX⟩ : ∃ X, X = es.map Ent.row := ⟨_, rfl⟩
  have hXl : ar.len X = (es.length : Int) := by rw [lenIs har, hX, List.length_map]
  have callX : ∀ (W s : List (List PS)) (w : List Int) (C : List (List PS)) (Γ : Ctx) (d' : Nat) (k : List PR → Prop) (R : Prop), Γ = ctx Tryd.prog d' → C = W → W = w.map b8 → w.length ≤ 2 ^ 40 → k [.a [.c (.v (.bool false)), .c (.sl W []), .c (.sl [] [])]] → Γ.g 65 [.s (.sl C s)] k ∨ R := fun W s w C Γ d' k R hΓ hc hw hl hk => call_by hΓ text_sound ⟨w, s, by rw [hc, hw], hl, by rw [hw] at hk; exact hk⟩
  have callL : ∀ (J : List (List PS)) (its : List It) (Γ : Ctx) (d' : Nat) (k : List PR → Prop) (R : Prop), Γ = ctx Tryd.prog d' → strips its = its → J = rowsOf its → bulks its ≤ 2 ^ 40 → k [.a [.c (.v (.bool true)), .c (.sl [] []), .c (.sl J [])]] → Γ.g 19 [.s (.sl J [])] k ∨ R := fun J its Γ d' k R hΓ hs hJ hl hk => call_by hΓ list_sound ⟨its, [], by rw [hJ], hl, by rw [hs]; rw [hJ] at hk; exact hk⟩
  have hel : es.length ≤ bulks (esIts es) := by
    have h1 := bulks_len (esIts es)
    have h2 : (esIts es).length = es.length := List.length_map ..
    omega
  rw [← hX] at hargs
  subst hargs
  conv => cbv
  refine .inr ⟨{ q : Nat × Int × List (List PS) // q.1 ≤ es.length ∧ q.2.1 = q.1 ∧ q.2.2 = rowsOf (esIts (es.take q.1)) },
    fun q => ⟨mk 45 [(2, .s (.ptr 0 0)), (3, .s (.lit .i64 0)), (4, .s (.own 1)), (10, .s (.p (.sl X s))), (11, pint (ar.len X)), (12, pint q.1.2.1)], [.box [.c (.bl false), .c .nil, .c .nil], .arr q.1.2.2 51 3 56 true]⟩,
    fun q => es.length - q.1.1, [.slot 4 51], _, ⟨(0, 0, []), Nat.zero_le _, rfl, rfl⟩, rfl, ?_, ?_⟩
  · conv => cbv
    simp
  · rintro ⟨⟨p, pi, Z⟩, hq⟩
    have hp : p ≤ es.length := hq.1
    have hpi : pi = (p : Int) := hq.2.1
    have hZ : Z = rowsOf (esIts (es.take p)) := hq.2.2
    dsimp only
    conv => cbv
    refine ⟨fun h => ?_, fun h => ?_⟩
    · have g := cLt har (b := ar.len X) h
      have hlt : p < es.length := by omega
      obtain ⟨e, hx⟩ : ∃ e, es[p]? = some e := ⟨_, List.getElem?_eq_getElem hlt⟩
      obtain ⟨ea, ek, es1⟩ := e
      obtain ⟨xv, hxv⟩ : ∃ xv, xv = u8s ea := ⟨_, rfl⟩
      obtain ⟨xl, hxl⟩ : ∃ xl, xl = ek.map key := ⟨_, rfl⟩
      have rx : X[pi.toNat]? = some [.r 20 xv, .c (.sl xl es1)] := by rw [hX, hpi]; simp [hx, Ent.row, hxv, hxl]
      conv => cbv
      refine ⟨_, by omega, rx, rfl, ?_⟩
      conv => cbv
      have hE := hlen _ (List.mem_of_getElem? hx)
      have hE1 : ea.length = 20 := hE.1
      have hE2 : ∀ w ∈ ek, w.length = 32 := hE.2
      have hEb : (entIt ea ek).bulk ≤ bulks (esIts es) := bulk_get (its := esIts es) (p := p) (by simp only [esIts, List.getElem?_map, hx]; rfl)
      rw [ent_bulk] at hEb
      have hkb : ek.length ≤ ksB ek := by have := bulks_len (ksIts ek); rw [ksIts, List.length_map] at this; exact this
      have hxll : ar.len xl = (ek.length : Int) := by rw [lenIs har, hxl, List.length_map]
      refine .inr ⟨{ q : Nat × Int × List (List PS) // q.1 ≤ ek.length ∧ q.2.1 = q.1 ∧ q.2.2 = rowsOf (ksIts (ek.take q.1)) },
        fun q => ⟨mk 45 [(2, .s (.ptr 0 0)), (3, .s (.lit .i64 0)), (4, .s (.own 1)), (6, .s (.ptr 2 0)), (7, .s (.own 3)), (10, .s (.p (.sl X s))), (11, pint (ar.len X)), (12, pint pi), (17, .s (.p (.sl xl es1))), (18, pint (ar.len xl)), (19, pint q.1.2.1)], [.box [.c (.bl false), .c .nil, .c .nil], .arr Z 51 3 56 true, .box [.r 20 xv, .c (.p (.sl xl es1))], .arr q.1.2.2 51 3 56 true]⟩,
        fun q => ek.length - q.1.1, [.slot 7 51], _, ⟨(0, 0, []), Nat.zero_le _, rfl, rfl⟩, rfl, ?_, ?_⟩
      · conv => cbv
        simp
      · rintro ⟨⟨r, ri, Y⟩, hr⟩
        have hrp : r ≤ ek.length := hr.1
        have hri : ri = (r : Int) := hr.2.1
        have hY : Y = rowsOf (ksIts (ek.take r)) := hr.2.2
        dsimp only
        conv => cbv
        refine ⟨fun h => ?_, fun h => ?_⟩
        · have g' := cLt har (b := ar.len xl) h
          have hrl : r < ek.length := by omega
          obtain ⟨w, hw⟩ : ∃ w, ek[r]? = some w := ⟨_, List.getElem?_eq_getElem hrl⟩
          have hw32 : w.length = 32 := hE2 w (List.mem_of_getElem? hw)
          obtain ⟨wv, hwv⟩ : ∃ wv, wv = u8s w := ⟨_, rfl⟩
          obtain ⟨W, hW⟩ : ∃ W, W = w.map b8 := ⟨_, rfl⟩
          have hcw : ar.cells wv = W := by rw [hwv, hW, bytes_cells ar har]
          have rw1 : xl[ri.toNat]? = some [.r 32 wv] := by rw [hxl, hri]; simp [hw, key, hwv]
          conv => cbv
          refine ⟨_, by omega, rw1, rfl, ?_⟩
          conv => cbv
          refine callX W [] w _ _ _ _ _ hΓ hcw hW (by omega) ?_
          conv => cbv
          have s1 : (Y.length + 1) * 56 ≤ 140737488355328 ∧ ∀ y ∈ [[PS.c (.v (.bool false)), .c (.sl W []), .c (.sl [] [])]], rlen y = 3 := ⟨by rw [hY, rowsOf_length, ksIts, List.length_map, List.length_take]; omega, by simp [rlen, PS.len]⟩
          have hY2 : ar.app Y [[PS.c (.v (.bool false)), .c (.sl W []), .c (.sl [] [])]] = rowsOf (ksIts (ek.take (r + 1))) := by
            rw [appIs har, hY, take_succ_get hw, ksIts, ksIts, List.map_append, rowsOf_append, hW]; rfl
          refine ⟨fun _ => s1, ?_⟩
          refine ⟨⟨(r + 1, ar.ib .add .i64 ri 1, ar.app Y [[PS.c (.v (.bool false)), .c (.sl W []), .c (.sl [] [])]]), hrl, iSucc har hri (by omega), hY2⟩, ?_, ?_⟩
          · dsimp only
            conv => cbv
            simp
          · show ek.length - (r + 1) < ek.length - r
            omega
        · have g' := cNlt har (b := ar.len xl) h
          have hre : r = ek.length := by omega
          rw [hre, List.take_length] at hY
          obtain ⟨V, hV⟩ : ∃ W, W = ea.map b8 := ⟨_, rfl⟩
          have hcv : ar.cells xv = V := by rw [hxv, hV, bytes_cells ar har]
          obtain ⟨G, hG⟩ : ∃ G, G = rowsOf [It.txt ea, It.lst (ksIts ek)] := ⟨_, rfl⟩
          have hG2 : G = [[.c (.v (.bool false)), .c (.sl V []), .c (.sl [] [])], [.c (.v (.bool true)), .c (.sl [] []), .c (.sl Y [])]] := by rw [hG, hV, hY]; rfl
          have hG3 : strips [It.txt ea, It.lst (ksIts ek)] = [It.txt ea, It.lst (ksIts ek)] := by simp only [strips, strip_txt, strip_lst, strips_ks]
          have hG4 : bulks [It.txt ea, It.lst (ksIts ek)] ≤ 2 ^ 40 := by
            have e := ent_bulk ea ek
            rw [entIt, It.lst, It.bulk, List.length_nil] at e
            omega
          have callG := callL G [It.txt ea, It.lst (ksIts ek)]
          rw [hG2] at callG
          have s1 : (Z.length + 1) * 56 ≤ 140737488355328 ∧ ∀ y ∈ [[PS.c (.v (.bool true)), .c (.sl [] []), .c (.sl [[.c (.v (.bool false)), .c (.sl V []), .c (.sl [] [])], [.c (.v (.bool true)), .c (.sl [] []), .c (.sl Y [])]] [])]], rlen y = 3 := ⟨by
            rw [hZ, rowsOf_length, esIts, List.length_map, List.length_take]
            omega, by simp [rlen, PS.len]⟩
          have hZ2 : ar.app Z [[PS.c (.v (.bool true)), .c (.sl [] []), .c (.sl [[.c (.v (.bool false)), .c (.sl V []), .c (.sl [] [])], [.c (.v (.bool true)), .c (.sl [] []), .c (.sl Y [])]] [])]] = rowsOf (esIts (es.take (p + 1))) := by
            rw [appIs har, hZ, take_succ_get hx, esIts, esIts, List.map_append, rowsOf_append, ← hG2, hG]; rfl
          conv => cbv
          refine callX V [] ea _ _ _ _ _ hΓ hcv hV (by omega) ?_
          conv => cbv
          refine callL Y (ksIts ek) _ _ _ _ hΓ (strips_ks ek) hY (by show ksB ek ≤ _; omega) ?_
          conv => cbv
          refine callG _ _ _ _ hΓ hG3 (hG2.symm.trans hG) hG4 ?_
          conv => cbv
          refine ⟨fun _ => s1, ?_⟩
          refine ⟨⟨(p + 1, ar.ib .add .i64 pi 1, ar.app Z [[PS.c (.v (.bool true)), .c (.sl [] []), .c (.sl [[.c (.v (.bool false)), .c (.sl V []), .c (.sl [] [])], [.c (.v (.bool true)), .c (.sl [] []), .c (.sl Y [])]] [])]]), hlt, iSucc har hpi (by omega), hZ2⟩, ?_, ?_⟩
          · dsimp only
            conv => cbv
            simp
          · show es.length - (p + 1) < es.length - p
            omega
    · have g := cNlt har (b := ar.len X) h
      have hpe : p = es.length := by omega
      rw [hpe, List.take_length] at hZ
      obtain ⟨F, hF⟩ : ∃ F, F = (if errOf (It.lst (esIts es)) = 0 then It.lst (esIts es) else .zero).row := ⟨_, rfl⟩
      obtain ⟨fe, hfe⟩ : ∃ fe : Int, fe = (if errOf (It.lst (esIts es)) = 0 then 0 else 2) := ⟨_, rfl⟩
      have callF : ∀ (Γ : Ctx) (d' : Nat) (k : List PR → Prop) (R : Prop), Γ = ctx Tryd.prog d' → k [.a F, .s (.v (.int .i64 fe))] → Γ.g 84 [.a [.c (.v (.bool true)), .c (.sl [] []), .c (.sl Z [])]] k ∨ R := fun Γ d' k R hΓ hk => call_by hΓ fitting_sound ⟨It.lst (esIts es), by rw [hZ]; rfl, by simp only [It.lst, It.bulk, List.length_nil]; omega, by rw [hF, hfe] at hk; exact hk⟩
      rw [← hF, ← hfe] at hk
      obtain ⟨a, ⟨b1, b2⟩, ⟨c1, c2⟩, hA2⟩ := row3 (if errOf (It.lst (esIts es)) = 0 then It.lst (esIts es) else .zero)
      rw [← hF] at hA2
      subst hA2
      conv => cbv
      refine callL Z (esIts es) _ _ _ _ hΓ (strips_es es) hZ (by omega) ?_
      conv => cbv
      refine callF _ _ _ _ hΓ ?_
      conv => cbv
      exact hk
end Go.Eng
