/-
  The reference's size, Check and Encode, of texts and of lists of texts; put walked in place. Condition: at most 1000 texts, at most 2^20 bytes.
  The reference's size of a list of texts, Check, Encode; put walked in place. Condition: at most 1000 texts, at most 2^20 bytes.
  The reference's AuthDigest; the law AccessDigests. No condition but that the row is an authorization's.
-/
import Derived.Test.YtejelaaocjfjbaaDoorPA
namespace Go.Eng
open Go Go.Proofs
set_option maxRecDepth 100000
set_option maxHeartbeats 16000000
set_option linter.unusedVariables false

theorem hd_lens (f g : Int) (n : Nat) : (hd f n).length = (hd g n).length := by
  unfold hd; split <;> simp
theorem encT_one {b : Int} (h : ¬ 128 ≤ b) : encT [b] = [b] := by rw [encT, if_neg]; simp; omega
theorem encT_head {d : List Int} (h : d.length ≠ 1 ∨ 128 ≤ d.getD 0 0) : encT d = hd 128 d.length ++ d := by rw [encT, if_pos h]

theorem sizeT_sound : Sound Tryd.prog 90 fun args k => ∃ d : List Int, args = [.a (It.txt d).row] ∧ d.length ≤ 2 ^ 20 ∧ k [.s (.v (.int .i64 ((encT d).length : Nat)))] := by
  refine Sound.of_body tt_ok ent_ok Tryd.func90 rfl ?_
  rintro ar har Γ hΓ args k ⟨d, hargs, hl, hk⟩
  obtain ⟨D, hD⟩ : ∃ D, D = d.map b8 := ⟨_, rfl⟩
  have hrow : (It.txt d).row = rtx D := by rw [hD]; rfl
  have hDl : ar.len D = (d.length : Int) := by rw [lenIs har, hD, List.length_map]
  have n2 : ar.nb false = true := by rw [har]; rfl
  have e : ar.cb .lss 0 (ar.len []) = false := by rw [har]; rfl
  obtain ⟨H, hH⟩ : ∃ H, H = (hd 128 d.length).map b8 := ⟨_, rfl⟩
  have hhl := hd_len (f := 128) (n := d.length) (by omega)
  have hHl : ar.len H = ((hd 128 d.length).length : Int) := by rw [lenIs har, hH, List.length_map]
  have callH : ∀ (Γ : Ctx) (d' : Nat) (k : List PR → Prop) (R : Prop), Γ = ctx Tryd.prog d' → k [.s (.sl H [])] → Γ.g 91 [.s (.v (.int .i64 (ar.len D))), .s (.v (.int .i64 128))] k ∨ R := fun Γ d' k R hΓ hk => call_by hΓ before_sound ⟨d.length, 128, by rw [hDl], by omega, by omega, by omega, by rw [← hH]; exact hk⟩
  have long : (d.length ≠ 1 ∨ 128 ≤ d.getD 0 0) → k [.s (.v (.int .i64 (ar.ib .add .i64 (ar.len H) (ar.len D))))] := fun h => by
    rw [encT_head h] at hk
    rw [hHl, hDl, iAdd har (by omega)]
    rw [List.length_append] at hk
    exact hk
  rw [hrow] at hargs
  unfold rtx at hargs
  subst hargs
  conv => cbv
  refine onT n2 ?_
  conv => cbv
  refine ⟨fun h => ?_, fun h => ?_⟩
  · have g := cEq har (a := ar.len D) (b := 1) h
    obtain ⟨b, hdb⟩ : ∃ b, d = [b] := by
      match d, (show d.length = 1 by omega) with
      | [b], _ => exact ⟨b, rfl⟩
    have hDb : D = [[.c (.v (.int .u8 b))]] := by rw [hD, hdb]; rfl
    have hD0 : D[(0 : Int).toNat]? = some [.c (.v (.int .u8 b))] := by rw [hDb]; rfl
    conv => cbv
    refine ⟨_, by omega, hD0, rfl, ?_⟩
    conv => cbv
    refine ⟨fun h => ?_, fun h => ?_⟩
    · have g2 := cLt har (a := b) (b := 128) h
      rw [hdb, encT_one (by omega)] at hk
      conv => cbv
      exact hk
    · have g2 := cNlt har (a := b) (b := 128) h
      have hk := long (by right; rw [hdb]; exact g2)
      conv => cbv
      refine .inl ⟨1, ?_⟩
      conv => cbv
      refine onF e ?_
      conv => cbv
      refine callH _ _ _ _ hΓ ?_
      conv => cbv
      exact hk
  · have g := cNeq har (a := ar.len D) (b := 1) h
    have hk := long (by left; omega)
    conv => cbv
    refine .inl ⟨1, ?_⟩
    conv => cbv
    refine onF e ?_
    conv => cbv
    refine callH _ _ _ _ hΓ ?_
    conv => cbv
    exact hk
end Go.Eng
namespace Go.Eng
open Go Go.Proofs
set_option maxRecDepth 100000
set_option maxHeartbeats 16000000
set_option linter.unusedVariables false

theorem sizeL_sound : Sound Tryd.prog 90 fun args k => ∃ ts : List (List Int), args = [.a (It.lst (ts.map It.txt)).row] ∧ ts.length ≤ 1000 ∧ (encB ts).length ≤ 2 ^ 20 ∧ k [.s (.v (.int .i64 ((encL ts).length : Nat)))] := by
  refine Sound.of_body tt_ok ent_ok Tryd.func90 rfl ?_
  rintro ar har Γ hΓ args k ⟨ts, hargs, hl, hj, hk⟩
  obtain ⟨I, hI⟩ : ∃ I, I = rowsOf (ts.map It.txt) := ⟨_, rfl⟩
  have hIl : ar.len I = (ts.length : Int) := by rw [lenIs har, hI, rowsOf_length, List.length_map]
  have hrow : (It.lst (ts.map It.txt)).row = rls I := by rw [hI]; rfl
  have n1 : ar.nb true = false := by rw [har]; rfl
  have n2 : ar.nb false = true := by rw [har]; rfl
  obtain ⟨H, hH⟩ : ∃ H, H = (hd 128 (encB ts).length).map b8 := ⟨_, rfl⟩
  have hhl := hd_len (f := 128) (n := (encB ts).length) (by omega)
  have hHl : ar.len H = ((hd 128 (encB ts).length).length : Int) := by rw [lenIs har, hH, List.length_map]
  have hl0 : ar.len [] = 0 := by rw [har]; rfl
  rw [hrow] at hargs
  unfold rls at hargs
  subst hargs
  conv => cbv
  refine onF n1 ?_
  conv => cbv
  refine .inr ⟨{ q : Nat × Int × Int // q.1 ≤ ts.length ∧ q.2.1 = q.1 ∧ q.2.2 = ((encB (ts.take q.1)).length : Int) },
    fun q => ⟨mk 42 [(1, .s (.ptr 0 0)), (2, .s (.lit .i64 0)), (3, pint q.1.2.2), (4, pint q.1.2.1)], [.box [.c (.p (.v (.bool true))), .c (.p (.sl [] [])), .c (.p (.sl I []))]]⟩,
    fun q => ts.length - q.1.1, [], _, ⟨(0, 0, ar.len []), Nat.zero_le _, rfl, hl0⟩, rfl, ?_, ?_⟩
  · conv => cbv
    simp
  rintro ⟨⟨p, pi, m⟩, hq⟩
  have hp : p ≤ ts.length := hq.1
  have hpi : pi = (p : Int) := hq.2.1
  have hm : m = ((encB (ts.take p)).length : Int) := hq.2.2
  have hzle := encB_le ts p
  dsimp only
  conv => cbv
  refine ⟨fun h => ?_, fun h => ?_⟩
  · have g' := cLt har (b := ar.len I) h
    have hlt : p < ts.length := by omega
    obtain ⟨d, hd'⟩ : ∃ t, ts[p]? = some t := ⟨_, List.getElem?_eq_getElem hlt⟩
    obtain ⟨D, hD⟩ : ∃ D, D = d.map b8 := ⟨_, rfl⟩
    have rx : I[pi.toNat]? = some [.c (.v (.bool false)), .c (.sl D []), .c (.sl [] [])] := by
      rw [hI, hpi, Int.toNat_natCast, rowsOf_get (x := It.txt d) (by rw [List.getElem?_map, hd']; rfl), hD]; rfl
    have hdt := encB_take hd'
    have hdle := encB_le ts (p + 1)
    have hdl : d.length ≤ (encT d).length := by unfold encT; split <;> simp
    rw [hdt, List.length_append] at hdle
    obtain ⟨z, hz⟩ : ∃ z : Int, z = ((encT d).length : Nat) := ⟨_, rfl⟩
    have c2 : ∀ (Γ : Ctx) (d' : Nat) (k : List PR → Prop) (R : Prop), Γ = ctx Tryd.prog d' → k [.s (.v (.int .i64 z))] → Γ.g 90 [.a (rtx D)] k ∨ R := fun Γ d' k R hΓ hk => call_by hΓ sizeT_sound ⟨d, by rw [hD]; rfl, by omega, by rw [← hz]; exact hk⟩
    have hnx : ar.ib .add .i64 m z = ((encB (ts.take (p + 1))).length : Int) := by
      rw [iAdd har (by omega), hdt, List.length_append, hm, hz, Int.natCast_add]
    unfold rtx at c2
    conv => cbv
    refine ⟨_, by omega, rx, rfl, ?_⟩
    conv => cbv
    refine c2 _ _ _ _ hΓ ?_
    conv => cbv
    refine ⟨⟨(p + 1, ar.ib .add .i64 pi 1, ar.ib .add .i64 m z), hlt, iSucc har hpi (by omega), hnx⟩, ?_, ?_⟩
    · dsimp only
      conv => cbv
      simp
    · show ts.length - (p + 1) < ts.length - p
      omega
  have g' := cNlt har (b := ar.len I) h
  have hpe : p = ts.length := by omega
  rw [hpe, List.take_length] at hm
  have callH : ∀ (Γ : Ctx) (d' : Nat) (k : List PR → Prop) (R : Prop), Γ = ctx Tryd.prog d' → k [.s (.sl H [])] → Γ.g 91 [.s (.v (.int .i64 m)), .s (.v (.int .i64 128))] k ∨ R := fun Γ d' k R hΓ hk => call_by hΓ before_sound ⟨(encB ts).length, 128, by rw [hm], by omega, by omega, by omega, by rw [← hH]; exact hk⟩
  have hk : k [.s (.v (.int .i64 (ar.ib .add .i64 (ar.len H) m)))] := by
    rw [hHl, hm, iAdd har (by omega)]
    rw [encL, List.length_append, hd_lens 192 128] at hk
    exact hk
  conv => cbv
  refine callH _ _ _ _ hΓ ?_
  conv => cbv
  exact hk

theorem refCheck_sound : Sound Tryd.prog 63 fun args k => ∃ ts : List (List Int), args = [.a (It.lst (ts.map It.txt)).row] ∧ ts.length ≤ 1000 ∧ (encB ts).length ≤ 2 ^ 20 ∧ k [.s (.v (.int .i64 0))] := by
  refine Sound.of_body tt_ok ent_ok Tryd.func63 rfl ?_
  rintro ar har Γ hΓ args k ⟨ts, hargs, hl, hj, hk⟩
  obtain ⟨I, hI⟩ : ∃ I, I = rowsOf (ts.map It.txt) := ⟨_, rfl⟩
  have hIl : ar.len I = (ts.length : Int) := by rw [lenIs har, hI, rowsOf_length, List.length_map]
  have hrow : (It.lst (ts.map It.txt)).row = rls I := by rw [hI]; rfl
  have n1 : ar.nb true = false := by rw [har]; rfl
  have n2 : ar.nb false = true := by rw [har]; rfl
  obtain ⟨z, hz⟩ : ∃ z : Int, z = ((encL ts).length : Nat) := ⟨_, rfl⟩
  have hhl := hd_len (f := 192) (n := (encB ts).length) (by omega)
  have hzl : z ≤ 16777216 := by rw [hz, encL, List.length_append]; omega
  have c1 : ∀ (Γ : Ctx) (d' : Nat) (k : List PR → Prop) (R : Prop), Γ = ctx Tryd.prog d' → k [.s (.v (.bool false))] → Γ.g 88 [.a (rls I)] k ∨ R := fun Γ d' k R hΓ hk => call_by hΓ oddlyL_sound ⟨ts, by rw [hrow], hl, hk⟩
  have c2 : ∀ (Γ : Ctx) (d' : Nat) (k : List PR → Prop) (R : Prop), Γ = ctx Tryd.prog d' → k [.s (.v (.int .i64 1))] → Γ.g 89 [.a (rls I)] k ∨ R := fun Γ d' k R hΓ hk => call_by hΓ depthL_sound ⟨ts, by rw [hrow], hl, hk⟩
  have c3 : ∀ (Γ : Ctx) (d' : Nat) (k : List PR → Prop) (R : Prop), Γ = ctx Tryd.prog d' → k [.s (.v (.int .i64 z))] → Γ.g 90 [.a (rls I)] k ∨ R := fun Γ d' k R hΓ hk => call_by hΓ sizeL_sound ⟨ts, by rw [hrow], hl, hj, by rw [← hz]; exact hk⟩
  have e1 : ar.cb .gtr 1 1024 = false := dNgt har (by omega)
  have e2 : ar.cb .gtr z 16777216 = false := dNgt har hzl
  rw [hrow] at hargs
  unfold rls at hargs c1 c2 c3
  subst hargs
  conv => cbv
  refine c1 _ _ _ _ hΓ ?_
  conv => cbv
  refine onF rfl ?_
  conv => cbv
  refine c2 _ _ _ _ hΓ ?_
  conv => cbv
  refine onF e1 ?_
  conv => cbv
  refine c3 _ _ _ _ hΓ ?_
  conv => cbv
  refine onF e2 ?_
  conv => cbv
  exact hk

theorem refEncode_sound : Sound Tryd.prog 41 fun args k => ∃ (ts : List (List Int)), args = [.a (It.lst (ts.map It.txt)).row] ∧ ts.length ≤ 1000 ∧ (encB ts).length ≤ 2 ^ 20 ∧ k [.s (.sl ((encL ts).map b8) []), .s (.v (.int .i64 0))] := by
  refine Sound.of_bodyI 2 tt_ok ent_ok Tryd.func41 rfl ?_
  rintro ar har Γ hΓ args k ⟨ts, hargs, hl, hj, hk⟩
  obtain ⟨I, hI⟩ : ∃ I, I = rowsOf (ts.map It.txt) := ⟨_, rfl⟩
  have hIl : ar.len I = (ts.length : Int) := by rw [lenIs har, hI, rowsOf_length, List.length_map]
  have hrow : (It.lst (ts.map It.txt)).row = rls I := by rw [hI]; rfl
  have n1 : ar.nb true = false := by rw [har]; rfl
  have n2 : ar.nb false = true := by rw [har]; rfl
  have callC : ∀ (Γ : Ctx) (d' : Nat) (k : List PR → Prop) (R : Prop), Γ = ctx Tryd.prog d' → k [.s (.v (.int .i64 0))] → Γ.g 63 [.a (rls I)] k ∨ R := fun Γ d' k R hΓ hk => call_by hΓ refCheck_sound ⟨_, by rw [hrow], hl, hj, hk⟩
  rw [hrow] at hargs
  unfold rls at hargs callC
  subst hargs
  conv => cbv
  refine callC _ _ _ _ hΓ ?_
  conv => cbv
  refine onF (dNne har rfl) ?_
  conv => cbv
  refine call_in har hΓ Tryd.func64 rfl fun Γ1 hΓ1 vs1 => ?_
  conv => cbv
  refine onF n1 ?_
  conv => cbv
  refine .inr ⟨{ q : Nat × Int × Int // q.1 ≤ ts.length ∧ q.2.1 = q.1 ∧ q.2.2 = ((encB (ts.take q.1)).length : Int) },
    fun q => ⟨mk 66 [(0, .s .nil), (3, .s (.ptr 2 0)), (4, .s .nil), (5, pint q.1.2.2), (6, pint q.1.2.1)], [.gone, .hid (mk 12 [(2, .s .nil), (3, .s (.lit .i64 0))]) vs1, .box [.c (.p (.v (.bool true))), .c (.p (.sl [] [])), .c (.p (.sl I []))]]⟩,
    fun q => ts.length - q.1.1, [], _, ⟨(0, 0, 0), Nat.zero_le _, rfl, rfl⟩, rfl, ?_, ?_⟩
  · conv => cbv
    simp
  rintro ⟨⟨p, pi, m⟩, hq⟩
  have hp : p ≤ ts.length := hq.1
  have hpi : pi = (p : Int) := hq.2.1
  have hm : m = ((encB (ts.take p)).length : Int) := hq.2.2
  have hzle := encB_le ts p
  dsimp only
  conv => cbv
  refine ⟨fun h => ?_, fun h => ?_⟩
  · have g' := cLt har (b := ar.len I) h
    have hlt : p < ts.length := by omega
    obtain ⟨d, hd'⟩ : ∃ t, ts[p]? = some t := ⟨_, List.getElem?_eq_getElem hlt⟩
    obtain ⟨D, hD⟩ : ∃ D, D = d.map b8 := ⟨_, rfl⟩
    have rx : I[pi.toNat]? = some [.c (.v (.bool false)), .c (.sl D []), .c (.sl [] [])] := by
      rw [hI, hpi, Int.toNat_natCast, rowsOf_get (x := It.txt d) (by rw [List.getElem?_map, hd']; rfl), hD]; rfl
    have hdt := encB_take hd'
    have hdle := encB_le ts (p + 1)
    have hdl : d.length ≤ (encT d).length := by unfold encT; split <;> simp
    rw [hdt, List.length_append] at hdle
    obtain ⟨z, hz⟩ : ∃ z : Int, z = ((encT d).length : Nat) := ⟨_, rfl⟩
    have c2 : ∀ (Γ : Ctx) (d' : Nat) (k : List PR → Prop) (R : Prop), Γ = ctx Tryd.prog d' → k [.s (.v (.int .i64 z))] → Γ.g 90 [.a (rtx D)] k ∨ R := fun Γ d' k R hΓ hk => call_by hΓ sizeT_sound ⟨d, by rw [hD]; rfl, by omega, by rw [← hz]; exact hk⟩
    have hnx : ar.ib .add .i64 m z = ((encB (ts.take (p + 1))).length : Int) := by
      rw [iAdd har (by omega), hdt, List.length_append, hm, hz, Int.natCast_add]
    unfold rtx at c2
    conv => cbv
    refine ⟨_, by omega, rx, rfl, ?_⟩
    conv => cbv
    refine c2 _ _ _ _ hΓ1 ?_
    conv => cbv
    refine ⟨⟨(p + 1, ar.ib .add .i64 pi 1, ar.ib .add .i64 m z), hlt, iSucc har hpi (by omega), hnx⟩, ?_, ?_⟩
    · dsimp only
      conv => cbv
      simp
    · show ts.length - (p + 1) < ts.length - p
      omega
  have g' := cNlt har (b := ar.len I) h
  have hpe : p = ts.length := by omega
  rw [hpe, List.take_length] at hm
  obtain ⟨H, hH⟩ : ∃ H, H = (hd 192 (encB ts).length).map b8 := ⟨_, rfl⟩
  have hhl := hd_len (f := 192) (n := (encB ts).length) (by omega)
  have hHn : H.length = (hd 192 (encB ts).length).length := by rw [hH, List.length_map]
  have hH1 : ∀ y ∈ H, rlen y = 1 := by rw [hH]; exact b8_all _
  have s1 : (0 + H.length) * 1 ≤ 140737488355328 ∧ ∀ y ∈ H, rlen y = 1 := ⟨by omega, hH1⟩
  have callH : ∀ (Γ : Ctx) (d' : Nat) (k : List PR → Prop) (R : Prop), Γ = ctx Tryd.prog d' → k [.s (.sl H [])] → Γ.g 91 [.s (.v (.int .i64 m)), .s (.v (.int .i64 192))] k ∨ R := fun Γ d' k R hΓ hk => call_by hΓ before_sound ⟨(encB ts).length, 192, by rw [hm], by omega, by omega, by omega, by rw [← hH]; exact hk⟩
  have e1 : ar.app [] H = H := by rw [appIs har]; rfl
  conv => cbv
  refine callH _ _ _ _ hΓ1 ?_
  conv => cbv
  refine ⟨fun _ => s1, ?_⟩
  conv => cbv
  refine .inr ⟨{ q : Nat × Int × List (List PS) // q.1 ≤ ts.length ∧ q.2.1 = q.1 ∧ q.2.2 = (hd 192 (encB ts).length ++ encB (ts.take q.1)).map b8 },
    fun q => ⟨mk 66 [(0, .s (.own 3)), (3, .s (.ptr 2 0)), (4, .s .nil), (7, pint q.1.2.1)], [.gone, .hid (mk 12 [(2, .s .nil), (3, .s (.lit .i64 0))]) vs1, .box [.c (.p (.v (.bool true))), .c (.p (.sl [] [])), .c (.p (.sl I []))], .arr q.1.2.2 5 1 1 true]⟩,
    fun q => ts.length - q.1.1, [], _, ⟨(0, 0, ar.app [] H), Nat.zero_le _, rfl, by show ar.app [] H = _; rw [e1, hH, List.take_zero, encB, List.append_nil]⟩, rfl, ?_, ?_⟩
  · conv => cbv
    simp
  rintro ⟨⟨p, pi, Z⟩, hq⟩
  have hp : p ≤ ts.length := hq.1
  have hpi : pi = (p : Int) := hq.2.1
  have hZ : Z = (hd 192 (encB ts).length ++ encB (ts.take p)).map b8 := hq.2.2
  have hZn : Z.length = (hd 192 (encB ts).length).length + (encB (ts.take p)).length := by rw [hZ, List.length_map, List.length_append]
  have hZle := encB_le ts p
  dsimp only
  conv => cbv
  refine ⟨fun h => ?_, fun h => ?_⟩
  · have g' := cLt har (b := ar.len I) h
    have hlt : p < ts.length := by omega
    obtain ⟨d, hd'⟩ : ∃ t, ts[p]? = some t := ⟨_, List.getElem?_eq_getElem hlt⟩
    obtain ⟨D, hD⟩ : ∃ D, D = d.map b8 := ⟨_, rfl⟩
    have rx : I[pi.toNat]? = some [.c (.v (.bool false)), .c (.sl D []), .c (.sl [] [])] := by
      rw [hI, hpi, Int.toNat_natCast, rowsOf_get (x := It.txt d) (by rw [List.getElem?_map, hd']; rfl), hD]; rfl
    have hDl : ar.len D = (d.length : Int) := by rw [lenIs har, hD, List.length_map]
    have hDn : D.length = d.length := by rw [hD, List.length_map]
    have hdt := encB_take hd'
    have hdle := encB_le ts (p + 1)
    have hdl : d.length ≤ (encT d).length := by unfold encT; split <;> simp
    rw [hdt, List.length_append] at hdle
    obtain ⟨H, hH⟩ : ∃ H, H = (hd 128 d.length).map b8 := ⟨_, rfl⟩
    have hhl := hd_len (f := 128) (n := d.length) (by omega)
    have hHn : H.length = (hd 128 d.length).length := by rw [hH, List.length_map]
    have hD1 : ∀ y ∈ D, rlen y = 1 := by rw [hD]; exact b8_all _
    have hH1 : ∀ y ∈ H, rlen y = 1 := by rw [hH]; exact b8_all _
    have s1 : (Z.length + H.length) * 1 ≤ 140737488355328 ∧ ∀ y ∈ H, rlen y = 1 := ⟨by omega, hH1⟩
    have s2 : ((ar.app Z H).length + D.length) * 1 ≤ 140737488355328 ∧ ∀ y ∈ D, rlen y = 1 := ⟨by rw [appIs har, List.length_append]; omega, hD1⟩
    have s3 : (Z.length + D.length) * 1 ≤ 140737488355328 ∧ ∀ y ∈ D, rlen y = 1 := ⟨by omega, hD1⟩
    have hZ1 : (d.length ≠ 1 ∨ 128 ≤ d.getD 0 0) → ar.app (ar.app Z H) D = (hd 192 (encB ts).length ++ encB (ts.take (p + 1))).map b8 := fun hc => by
      rw [appIs har, appIs har, hZ, hH, hD, hdt, encT, if_pos hc, List.map_append, List.map_append, List.map_append, List.map_append, List.append_assoc, List.append_assoc]
    have hZ2 : ¬ (d.length ≠ 1 ∨ 128 ≤ d.getD 0 0) → ar.app Z D = (hd 192 (encB ts).length ++ encB (ts.take (p + 1))).map b8 := fun hc => by
      rw [appIs har, hZ, hD, hdt, encT, if_neg hc, List.map_append, List.map_append, List.map_append, List.append_assoc]
    have callH : ∀ (Γ : Ctx) (d' : Nat) (k : List PR → Prop) (R : Prop), Γ = ctx Tryd.prog d' → k [.s (.sl H [])] → Γ.g 91 [.s (.v (.int .i64 (ar.len D))), .s (.v (.int .i64 128))] k ∨ R := fun Γ d' k R hΓ hk => call_by hΓ before_sound ⟨d.length, 128, by rw [hDl], by omega, by omega, by omega, by rw [← hH]; exact hk⟩
    conv => cbv
    refine ⟨_, by omega, rx, rfl, ?_⟩
    conv => cbv
    refine call_in har hΓ1 Tryd.func64 rfl fun Γ2 hΓ2 vs2 => ?_
    conv => cbv
    refine onT n2 ?_
    conv => cbv
    conv => cbv
    refine ⟨fun h => ?_, fun h => ?_⟩
    · have g := cNne har (a := ar.len D) (b := 1) h
      obtain ⟨b, hdb⟩ : ∃ b, d = [b] := by
        match d, (show d.length = 1 by omega) with
        | [b], _ => exact ⟨b, rfl⟩
      have hDb : D = [[.c (.v (.int .u8 b))]] := by rw [hD, hdb]; rfl
      have hD0 : D[(0 : Int).toNat]? = some [.c (.v (.int .u8 b))] := by rw [hDb]; rfl
      conv => cbv
      refine ⟨_, by omega, hD0, rfl, ?_⟩
      conv => cbv
      refine ⟨fun h => ?_, fun h => ?_⟩
      · have g2 := cGe har (a := b) (b := 128) h
        conv => cbv
        refine callH _ _ _ _ hΓ2 ?_
        conv => cbv
        refine ⟨fun _ => s1, ?_⟩
        conv => cbv
        refine ⟨fun _ => s2, ?_⟩
        refine ⟨⟨(p + 1, ar.ib .add .i64 pi 1, ar.app (ar.app Z H) D), hlt, iSucc har hpi (by omega), hZ1 (by right; rw [hdb]; exact g2)⟩, ?_, ?_⟩
        · dsimp only
          conv => cbv
          simp
        · show ts.length - (p + 1) < ts.length - p
          omega
      · have g2 := cNge har (a := b) (b := 128) h
        conv => cbv
        refine ⟨fun _ => s3, ?_⟩
        refine ⟨⟨(p + 1, ar.ib .add .i64 pi 1, ar.app Z D), hlt, iSucc har hpi (by omega), hZ2 (by rw [hdb]; simp; omega)⟩, ?_, ?_⟩
        · dsimp only
          conv => cbv
          simp
        · show ts.length - (p + 1) < ts.length - p
          omega
    · have g := cNe har (a := ar.len D) (b := 1) h
      conv => cbv
      refine callH _ _ _ _ hΓ2 ?_
      conv => cbv
      refine ⟨fun _ => s1, ?_⟩
      conv => cbv
      refine ⟨fun _ => s2, ?_⟩
      refine ⟨⟨(p + 1, ar.ib .add .i64 pi 1, ar.app (ar.app Z H) D), hlt, iSucc har hpi (by omega), hZ1 (by left; omega)⟩, ?_, ?_⟩
      · dsimp only
        conv => cbv
        simp
      · show ts.length - (p + 1) < ts.length - p
        omega
  have g' := cNlt har (b := ar.len I) h
  have hpe : p = ts.length := by omega
  rw [hpe, List.take_length] at hZ
  have hk : k [.s (.sl Z []), .s (.v (.int .i64 0))] := by rw [hZ]; exact hk
  conv => cbv
  exact hk
end Go.Eng
namespace Go.Eng
open Go Go.Proofs
set_option maxRecDepth 100000
set_option maxHeartbeats 16000000
set_option linter.unusedVariables false

theorem refAuthDigest_sound : Sound Tryd.prog 14 fun args k => ∃ u : Au, args = [.a u.row] ∧ u.ok ∧ bytesOk u.a ∧ k [.a [.r 32 (u8s u.dig)]] := by
  refine Sound.of_body tt_ok ent_ok Tryd.func14 rfl ?_
  rintro ar har Γ hΓ args k ⟨u, hargs, huk, hub, hk⟩
  have callX : ∀ (W s : List (List PS)) (w : List Int) (C : List (List PS)) (Γ : Ctx) (d' : Nat) (k : List PR → Prop), Γ = ctx Tryd.prog d' → C = W → W = w.map b8 → w.length ≤ 2 ^ 40 → k [.a (rtx W)] → Γ.g 39 [.s (.sl C s)] k := fun W s w C Γ d' k hΓ hc hw hl hk => call_by' hΓ textOf_sound ⟨w, s, by rw [hc, hw], hl, by rw [hw] at hk; exact hk⟩
  have callN : ∀ (n : Nat) (x : List Value) (D : List (List PS)) (Γ : Ctx) (d' : Nat) (k : List PR → Prop), Γ = ctx Tryd.prog d' → x = w4 n → n < M256 → D = (numB n).map b8 → k [.a (rtx D)] → Γ.g 38 [.a [.r 4 x]] k := fun n x D Γ d' k hΓ hx hn hD hk => call_by' hΓ refNumber_sound ⟨n, by unfold pw; rw [hx], hn, by rw [hD] at hk; exact hk⟩
  have callS : ∀ (n : Nat) (z : Int) (D : List (List PS)) (Γ : Ctx) (d' : Nat) (k : List PR → Prop), Γ = ctx Tryd.prog d' → z = n → n < 18446744073709551616 → D = (numB n).map b8 → k [.a (rtx D)] → Γ.g 40 [.s (.v (.int .u64 z))] k := fun n z D Γ d' k hΓ hz hn hD hk => call_by' hΓ ref7Small_sound ⟨n, by rw [hz], hn, by rw [hD] at hk; exact hk⟩
  obtain ⟨c1, hc1⟩ : ∃ x, x = w4 u.ch := ⟨_, rfl⟩
  obtain ⟨c2, hc2⟩ : ∃ x, x = u8s u.a := ⟨_, rfl⟩
  obtain ⟨c3, hc3⟩ : ∃ x : Int, x = u.no := ⟨_, rfl⟩
  obtain ⟨c4, hc4⟩ : ∃ x : Int, x = u.pa := ⟨_, rfl⟩
  obtain ⟨c5, hc5⟩ : ∃ x, x = w4 u.r := ⟨_, rfl⟩
  obtain ⟨c6, hc6⟩ : ∃ x, x = w4 u.s := ⟨_, rfl⟩
  obtain ⟨D1, hD1⟩ : ∃ x, x = (numB u.ch).map b8 := ⟨_, rfl⟩
  obtain ⟨D2, hD2⟩ : ∃ x, x = u.a.map b8 := ⟨_, rfl⟩
  obtain ⟨D3, hD3⟩ : ∃ x, x = (numB u.no).map b8 := ⟨_, rfl⟩
  obtain ⟨E, hE⟩ : ∃ x, x = (encL u.ts).map b8 := ⟨_, rfl⟩
  obtain ⟨H, hH⟩ : ∃ x, x = u8s u.dig := ⟨_, rfl⟩
  have hcc : ar.cells c2 = D2 := by rw [hc2, hD2, bytes_cells ar har]
  have hts := ts_ok huk
  have hbt := ts_bytes hub
  have hel : (encL u.ts).length ≤ 200 := by
    have := hd_len (f := 192) (n := (encB u.ts).length) (by omega)
    rw [encL, List.length_append]; omega
  obtain ⟨u1, u2, u3, u4, u5, u6⟩ := huk
  have hJ2 : rowsOf (u.ts.map It.txt) = [rtx D1, rtx D2, rtx D3] := by rw [hD1, hD2, hD3]; rfl
  have s1 : (0 + 3) * 56 ≤ 140737488355328 ∧ ∀ y ∈ [rtx D1, rtx D2, rtx D3], rlen y = 3 := ⟨by omega, by simp [rlen, PS.len, rtx]⟩
  have e1 : ar.app [] [rtx D1, rtx D2, rtx D3] = [rtx D1, rtx D2, rtx D3] := by rw [appIs har]; rfl
  have callE : ∀ (Γ : Ctx) (d' : Nat) (k : List PR → Prop) (R : Prop), Γ = ctx Tryd.prog d' → k [.s (.sl E []), .s (.v (.int .i64 0))] → Γ.g 41 [.a [.c (.v (.bool true)), .c (.sl [] []), .c (.sl (ar.app [] [rtx D1, rtx D2, rtx D3]) [])]] k ∨ R := fun Γ d' k R hΓ hk => call_by hΓ refEncode_sound ⟨u.ts, by rw [e1, ← hJ2]; rfl, by simp [Au.ts], by omega, by rw [← hE]; exact hk⟩
  have callK : ∀ (Γ : Ctx) (d' : Nat) (k : List PR → Prop) (R : Prop), Γ = ctx Tryd.prog d' → k [.a [.r 32 H]] → Γ.g 42 [.s (.sl [[.c (.sl [b8 5] [])], [.c (.sl E [])]] [])] k ∨ R := fun Γ d' k R hΓ hk => call_by hΓ refSum_sound ⟨[⟨[5], []⟩, ⟨encL u.ts, []⟩], [], by rw [hE]; rfl, by simp, by simp [join]; omega, by simp only [join, List.append_nil, List.singleton_append]; intro b hb; rcases List.mem_cons.1 hb with rfl | hb; omega; exact hbt b hb, by rw [hH] at hk; simpa [join, Au.dig] using hk⟩
  have hrow : u.row = [.r 4 c1, .r 20 c2, .c (.v (.int .u64 c3)), .c (.v (.int .u64 c4)), .r 4 c5, .r 4 c6] := by rw [hc1, hc2, hc3, hc4, hc5, hc6]; rfl
  rw [← hH] at hk
  unfold rtx at s1 e1 callE
  rw [hrow] at hargs
  subst hargs
  conv => cbv
  refine ⟨by rw [har]; kernel_rfl, ?_⟩
  refine callN u.ch c1 D1 _ _ _ hΓ hc1 u1 hD1 ?_
  conv => cbv
  refine callX D2 [] u.a _ _ _ _ hΓ hcc hD2 (by omega) ?_
  conv => cbv
  refine callS u.no c3 D3 _ _ _ hΓ hc3 u3 hD3 ?_
  conv => cbv
  refine ⟨fun _ => s1, ?_⟩
  conv => cbv
  refine callE _ _ _ _ hΓ ?_
  conv => cbv
  refine callK _ _ _ _ hΓ ?_
  conv => cbv
  exact hk

theorem accessDigests_law : Sound Tryd.prog 4 fun args k => ∃ u : Au, args = [.a u.row] ∧ u.ok ∧ bytesOk u.a ∧ k [.s (.v (.bool true))] := by
  refine Sound.of_body tt_ok ent_ok Tryd.func4 rfl ?_
  rintro ar har Γ hΓ args k ⟨u, hargs, huk, hub, hk⟩
  obtain ⟨c1, hc1⟩ : ∃ x, x = w4 u.ch := ⟨_, rfl⟩
  obtain ⟨c2, hc2⟩ : ∃ x, x = u8s u.a := ⟨_, rfl⟩
  obtain ⟨c3, hc3⟩ : ∃ x : Int, x = u.no := ⟨_, rfl⟩
  obtain ⟨c4, hc4⟩ : ∃ x : Int, x = u.pa := ⟨_, rfl⟩
  obtain ⟨c5, hc5⟩ : ∃ x, x = w4 u.r := ⟨_, rfl⟩
  obtain ⟨c6, hc6⟩ : ∃ x, x = w4 u.s := ⟨_, rfl⟩
  obtain ⟨H, hH⟩ : ∃ x, x = u8s u.dig := ⟨_, rfl⟩
  have hrow : u.row = [.r 4 c1, .r 20 c2, .c (.v (.int .u64 c3)), .c (.v (.int .u64 c4)), .r 4 c5, .r 4 c6] := by rw [hc1, hc2, hc3, hc4, hc5, hc6]; rfl
  have a1 : ∀ (Γ : Ctx) (d' : Nat) (k : List PR → Prop), Γ = ctx Tryd.prog d' → k [.a [.r 32 H]] → Γ.g 13 [.a u.row] k := fun Γ d' k hΓ hk => call_by' hΓ authDigest_sound ⟨u, rfl, huk, hub, by rw [← hH]; exact hk⟩
  have a2 : ∀ (Γ : Ctx) (d' : Nat) (k : List PR → Prop), Γ = ctx Tryd.prog d' → k [.a [.r 32 H]] → Γ.g 14 [.a u.row] k := fun Γ d' k hΓ hk => call_by' hΓ refAuthDigest_sound ⟨u, rfl, huk, hub, by rw [← hH]; exact hk⟩
  have hi : ints .u8 H := by rw [hH]; exact ints_u8s _
  have hk : k [.s (.v (.bool (ar.eqv H H)))] := by rw [eqvIs har, hH, eqVals_u8s, beq_self_eq_true]; exact hk
  rw [hrow] at hargs a1 a2
  subst hargs
  conv => cbv
  refine ⟨by rw [har]; kernel_rfl, ?_⟩
  refine a1 _ _ _ hΓ ?_
  conv => cbv
  refine a2 _ _ _ hΓ ?_
  conv => cbv
  exact ⟨fun _ => ⟨hi, hi⟩, hk⟩
end Go.Eng
