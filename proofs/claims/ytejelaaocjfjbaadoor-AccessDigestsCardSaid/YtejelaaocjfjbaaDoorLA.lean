/-
  rlp.Encode of a list of texts, rlp.lay walked in place. Condition: at most 1000 texts, at most 2^20 bytes.
  access.AuthDigest. No condition but that the row is an authorization's.
-/
import Derived.Test.YtejelaaocjfjbaaDoorRC
import Derived.Test.YtejelaaocjfjbaaDoorK7
namespace Go.Eng
open Go Go.Proofs
set_option maxRecDepth 100000
set_option maxHeartbeats 16000000
set_option linter.unusedVariables false

def encT (d : List Int) : List Int := if d.length ≠ 1 ∨ 128 ≤ d.getD 0 0 then hd 128 d.length ++ d else d
def encB : List (List Int) → List Int
  | [] => []
  | d :: l => encT d ++ encB l
def encL (ts : List (List Int)) : List Int := hd 192 (encB ts).length ++ encB ts
theorem encB_append (a b : List (List Int)) : encB (a ++ b) = encB a ++ encB b := by
  induction a with
  | nil => rfl
  | cons x l ih => rw [List.cons_append, encB, encB, ih, List.append_assoc]
theorem encB_take {l : List (List Int)} {p : Nat} {t : List Int} (h : l[p]? = some t) : encB (l.take (p + 1)) = encB (l.take p) ++ encT t := by
  rw [take_succ_get h, encB_append, encB, encB, List.append_nil]
theorem encB_le (l : List (List Int)) (p : Nat) : (encB (l.take p)).length ≤ (encB l).length := by
  conv => rhs; rw [← List.take_append_drop p l, encB_append, List.length_append]
  omega

theorem encode_sound : Sound Tryd.prog 24 fun args k => ∃ (ts : List (List Int)), args = [.a (It.lst (ts.map It.txt)).row] ∧ ts.length ≤ 1000 ∧ (encB ts).length ≤ 2 ^ 20 ∧ (It.lst (ts.map It.txt)).bulk ≤ 2 ^ 20 ∧ errOf (It.lst (ts.map It.txt)) = 0 ∧ k [.s (.sl ((encL ts).map b8) []), .s (.v (.int .i64 0))] := by
  refine Sound.of_bodyI 2 tt_ok ent_ok Tryd.func24 rfl ?_
  rintro ar har Γ hΓ args k ⟨ts, hargs, hl, hj, hbk, he, hk⟩
  obtain ⟨I, hI⟩ : ∃ I, I = rowsOf (ts.map It.txt) := ⟨_, rfl⟩
  have hIl : ar.len I = (ts.length : Int) := by rw [lenIs har, hI, rowsOf_length, List.length_map]
  have hrow : (It.lst (ts.map It.txt)).row = [.c (.v (.bool true)), .c (.sl [] []), .c (.sl I [])] := by rw [hI]; rfl
  have callC : ∀ (Γ : Ctx) (d' : Nat) (k : List PR → Prop) (R : Prop), Γ = ctx Tryd.prog d' → k [.s (.v (.int .i64 0))] → Γ.g 51 [.a [.c (.v (.bool true)), .c (.sl [] []), .c (.sl I [])]] k ∨ R := fun Γ d' k R hΓ hk => call_by hΓ check_sound ⟨_, by rw [hrow], by omega, by rw [he]; exact hk⟩
  rw [hrow] at hargs
  subst hargs
  have n1 : ar.nb true = false := by rw [har]; rfl
  have n2 : ar.nb false = true := by rw [har]; rfl
  conv => cbv
  refine callC _ _ _ _ hΓ ?_
  conv => cbv
  refine onF (dNne har rfl) ?_
  conv => cbv
  refine call_in har hΓ Tryd.func52 rfl fun Γ1 hΓ1 vs1 => ?_
  conv => cbv
  refine onF n1 ?_
  conv => cbv
  refine .inr ⟨{ q : Nat × Int × List (List PS) // q.1 ≤ ts.length ∧ q.2.1 = q.1 ∧ q.2.2 = (encB (ts.take q.1)).map b8 },
    fun q => ⟨mk 50 [(0, .s .nil), (4, .s .nil), (5, .s (.own 3)), (33, .s (.p (.sl I []))), (34, pint (ar.len I)), (35, pint q.1.2.1)], [.gone, .hid (mk 12 [(2, .s .nil), (3, .s (.lit .i64 0))]) vs1, .gone, .arr q.1.2.2 5 1 1 true]⟩,
    fun q => ts.length - q.1.1, [.slot 5 5], _, ⟨(0, 0, []), Nat.zero_le _, rfl, rfl⟩, rfl, ?_, ?_⟩
  · conv => cbv
    simp
  rintro ⟨⟨p, pi, Z⟩, hq⟩
  have hp : p ≤ ts.length := hq.1
  have hpi : pi = (p : Int) := hq.2.1
  have hZ : Z = (encB (ts.take p)).map b8 := hq.2.2
  have hZn : Z.length = (encB (ts.take p)).length := by rw [hZ, List.length_map]
  have hZle := encB_le ts p
  dsimp only
  conv => cbv
  refine ⟨fun h => ?_, fun h => ?_⟩
  · have g' := cLt har (b := ar.len I) h
    have hlt : p < ts.length := by omega
    obtain ⟨d, hd'⟩ : ∃ t, ts[p]? = some t := ⟨_, List.getElem?_eq_getElem hlt⟩
    obtain ⟨D, hD⟩ : ∃ D, D = d.map b8 := ⟨_, rfl⟩
    have rx : I[pi.toNat]? = some [.c (.v (.bool false)), .c (.sl D []), .c (.sl [] [])] := by
      rw [hI, hpi, Int.toNat_natCast, rowsOf_get (x := It.txt d) (by rw [List.getElem?_map, hd']; rfl), hD]; rfl
    have hDl : ar.len D = (d.length : Int) := by rw [lenIs har, hD, List.length_map]
    have hDn : D.length = d.length := by rw [hD, List.length_map]
    have hdt := encB_take hd'
    have hdle := encB_le ts (p + 1)
    have hdl : d.length ≤ (encT d).length := by unfold encT; split <;> simp
    rw [hdt, List.length_append] at hdle
    obtain ⟨H, hH⟩ : ∃ H, H = (hd 128 d.length).map b8 := ⟨_, rfl⟩
    have hhl := hd_len (f := 128) (n := d.length) (by omega)
    have hHn : H.length = (hd 128 d.length).length := by rw [hH, List.length_map]
    have hD1 : ∀ y ∈ D, rlen y = 1 := by rw [hD]; exact b8_all _
    have hH1 : ∀ y ∈ H, rlen y = 1 := by rw [hH]; exact b8_all _
    have s1 : (Z.length + H.length) * 1 ≤ 140737488355328 ∧ ∀ y ∈ H, rlen y = 1 := ⟨by omega, hH1⟩
    have s2 : ((ar.app Z H).length + D.length) * 1 ≤ 140737488355328 ∧ ∀ y ∈ D, rlen y = 1 := ⟨by rw [appIs har, List.length_append]; omega, hD1⟩
    have s3 : (Z.length + D.length) * 1 ≤ 140737488355328 ∧ ∀ y ∈ D, rlen y = 1 := ⟨by omega, hD1⟩
    have hZ1 : (d.length ≠ 1 ∨ 128 ≤ d.getD 0 0) → ar.app (ar.app Z H) D = (encB (ts.take (p + 1))).map b8 := fun hc => by
      rw [appIs har, appIs har, hZ, hH, hD, hdt, encT, if_pos hc, List.map_append, List.map_append, List.append_assoc]
    have hZ2 : ¬ (d.length ≠ 1 ∨ 128 ≤ d.getD 0 0) → ar.app Z D = (encB (ts.take (p + 1))).map b8 := fun hc => by
      rw [appIs har, hZ, hD, hdt, encT, if_neg hc, List.map_append]
    have callH : ∀ (Γ : Ctx) (d' : Nat) (k : List PR → Prop) (R : Prop), Γ = ctx Tryd.prog d' → k [.s (.sl H [])] → Γ.g 82 [.s (.v (.int .u8 128)), .s (.v (.int .i64 (ar.len D)))] k ∨ R := fun Γ d' k R hΓ hk => call_by hΓ head_sound ⟨128, d.length, by rw [hDl], by omega, by omega, by omega, by rw [← hH]; exact hk⟩
    conv => cbv
    refine ⟨_, by omega, rx, rfl, ?_⟩
    conv => cbv
    refine call_in har hΓ1 Tryd.func52 rfl fun Γ2 hΓ2 vs2 => ?_
    conv => cbv
    refine onT n2 ?_
    conv => cbv
    conv => cbv
    refine ⟨fun h => ?_, fun h => ?_⟩
    · have g := cNne har (a := ar.len D) (b := 1) h
      obtain ⟨b, hdb⟩ : ∃ b, d = [b] := by
        match d, (show d.length = 1 by omega) with
        | [b], _ => exact ⟨b, rfl⟩
      have hDb : D = [[.c (.v (.int .u8 b))]] := by rw [hD, hdb]; rfl
      have hD0 : D[(0 : Int).toNat]? = some [.c (.v (.int .u8 b))] := by rw [hDb]; rfl
      conv => cbv
      refine ⟨_, by omega, hD0, rfl, ?_⟩
      conv => cbv
      refine ⟨fun h => ?_, fun h => ?_⟩
      · have g2 := cGe har (a := b) (b := 128) h
        conv => cbv
        refine callH _ _ _ _ hΓ2 ?_
        conv => cbv
        refine ⟨fun _ => s1, ?_⟩
        conv => cbv
        refine ⟨fun _ => s2, ?_⟩
        refine ⟨⟨(p + 1, ar.ib .add .i64 pi 1, ar.app (ar.app Z H) D), hlt, iSucc har hpi (by omega), hZ1 (by right; rw [hdb]; exact g2)⟩, ?_, ?_⟩
        · dsimp only
          conv => cbv
          simp
        · show ts.length - (p + 1) < ts.length - p
          omega
      · have g2 := cNge har (a := b) (b := 128) h
        conv => cbv
        refine ⟨fun _ => s3, ?_⟩
        refine ⟨⟨(p + 1, ar.ib .add .i64 pi 1, ar.app Z D), hlt, iSucc har hpi (by omega), hZ2 (by rw [hdb]; simp; omega)⟩, ?_, ?_⟩
        · dsimp only
          conv => cbv
          simp
        · show ts.length - (p + 1) < ts.length - p
          omega
    · have g := cNe har (a := ar.len D) (b := 1) h
      conv => cbv
      refine callH _ _ _ _ hΓ2 ?_
      conv => cbv
      refine ⟨fun _ => s1, ?_⟩
      conv => cbv
      refine ⟨fun _ => s2, ?_⟩
      refine ⟨⟨(p + 1, ar.ib .add .i64 pi 1, ar.app (ar.app Z H) D), hlt, iSucc har hpi (by omega), hZ1 (by left; omega)⟩, ?_, ?_⟩
      · dsimp only
        conv => cbv
        simp
      · show ts.length - (p + 1) < ts.length - p
        omega
  have g' := cNlt har (b := ar.len I) h
  have hpe : p = ts.length := by omega
  rw [hpe, List.take_length] at hZ hZn
  obtain ⟨H, hH⟩ : ∃ H, H = (hd 192 (encB ts).length).map b8 := ⟨_, rfl⟩
  have hhl := hd_len (f := 192) (n := (encB ts).length) (by omega)
  have hHn : H.length = (hd 192 (encB ts).length).length := by rw [hH, List.length_map]
  have hZl : ar.len Z = ((encB ts).length : Int) := by rw [lenIs har, hZn]
  have hZ1 : ∀ y ∈ Z, rlen y = 1 := by rw [hZ]; exact b8_all _
  have hH1 : ∀ y ∈ H, rlen y = 1 := by rw [hH]; exact b8_all _
  have s1 : (0 + H.length) * 1 ≤ 140737488355328 ∧ ∀ y ∈ H, rlen y = 1 := ⟨by omega, hH1⟩
  have s2 : ((ar.app [] H).length + Z.length) * 1 ≤ 140737488355328 ∧ ∀ y ∈ Z, rlen y = 1 := ⟨by rw [appIs har, List.length_append, List.length_nil]; omega, hZ1⟩
  have hres : ar.app (ar.app [] H) Z = (encL ts).map b8 := by
    rw [appIs har, appIs har, hZ, hH, encL, List.map_append, List.nil_append]
  rw [← hres] at hk
  have callH : ∀ (Γ : Ctx) (d' : Nat) (k : List PR → Prop) (R : Prop), Γ = ctx Tryd.prog d' → k [.s (.sl H [])] → Γ.g 82 [.s (.v (.int .u8 192)), .s (.v (.int .i64 (ar.len Z)))] k ∨ R := fun Γ d' k R hΓ hk => call_by hΓ head_sound ⟨192, (encB ts).length, by rw [hZl], by omega, by omega, by omega, by rw [← hH]; exact hk⟩
  conv => cbv
  refine callH _ _ _ _ hΓ1 ?_
  conv => cbv
  refine ⟨fun _ => s1, ?_⟩
  conv => cbv
  refine ⟨fun _ => s2, ?_⟩
  conv => cbv
  exact hk
end Go.Eng
namespace Go.Eng
open Go Go.Proofs
set_option maxRecDepth 100000
set_option maxHeartbeats 16000000
set_option linter.unusedVariables false

def Au.ts (u : Au) : List (List Int) := [numB u.ch, u.a, numB u.no]
def Au.dig (u : Au) : List Int := kec (5 :: encL u.ts)
theorem encT_len (d : List Int) (h : d.length ≤ 32) : (encT d).length ≤ 41 := by
  have := hd_len (f := 128) (n := d.length) (by omega)
  unfold encT; split
  · rw [List.length_append]; omega
  · omega
theorem be_bytes (n : Nat) : ∀ k, ∀ b ∈ be n k, 0 ≤ b ∧ b < 256 := fun k => be_range n k
theorem hd_bytes (f : Int) (n : Nat) : ∀ b ∈ hd f n, 0 ≤ b ∧ b < 256 := fun b hb => by
  unfold hd at hb
  split at hb
  · simp at hb; omega
  · rcases List.mem_cons.1 hb with hb | hb
    · omega
    · exact be_bytes _ _ b hb
theorem encT_bytes {d : List Int} (h : ∀ b ∈ d, 0 ≤ b ∧ b < 256) : ∀ b ∈ encT d, 0 ≤ b ∧ b < 256 := fun b hb => by
  unfold encT at hb
  split at hb
  · rcases List.mem_append.1 hb with hb | hb
    · exact hd_bytes _ _ b hb
    · exact h b hb
  · exact h b hb
theorem ts_ok {u : Au} (h : u.ok) : (encB u.ts).length ≤ 123 ∧ (It.lst (u.ts.map It.txt)).bulk ≤ 200 ∧ errOf (It.lst (u.ts.map It.txt)) = 0 := by
  obtain ⟨h1, h2, h3, h4, h5, h6⟩ := h
  have a1 := numB_len h1
  have a2 := numB_len (show u.no < M256 by unfold M256; omega)
  have b1 := encT_len _ a1
  have b2 := encT_len u.a (by omega)
  have b3 := encT_len _ a2
  have hb : (It.lst (u.ts.map It.txt)).bulk ≤ 200 := by
    simp only [Au.ts, List.map_cons, List.map_nil, It.lst, bulks, It.txt, It.bulk, List.length_nil]
    omega
  refine ⟨by simp only [Au.ts, encB, List.length_append, List.length_nil]; omega, hb, ?_⟩
  have hs := sz_le (It.lst (u.ts.map It.txt)) (by omega)
  have hd := dep_le (It.lst (u.ts.map It.txt))
  rw [errOf, if_pos (by rfl), if_neg (by omega), if_neg (by omega)]
theorem encB_bytes : ∀ {ts : List (List Int)}, (∀ t ∈ ts, ∀ b ∈ t, 0 ≤ b ∧ b < 256) → ∀ b ∈ encB ts, 0 ≤ b ∧ b < 256
  | [], _, b, hb => by cases hb
  | t :: l, h, b, hb => by
    rw [encB] at hb
    rcases List.mem_append.1 hb with hb | hb
    · exact encT_bytes (h t (by simp)) b hb
    · exact encB_bytes (fun x hx => h x (by simp [hx])) b hb
theorem ts_bytes {u : Au} (h : bytesOk u.a) : ∀ b ∈ encL u.ts, 0 ≤ b ∧ b < 256 := fun b hb => by
  rw [encL] at hb
  rcases List.mem_append.1 hb with hb | hb
  · exact hd_bytes _ _ b hb
  · refine encB_bytes (fun t ht => ?_) b hb
    simp only [Au.ts, List.mem_cons, List.not_mem_nil, or_false] at ht
    rcases ht with rfl | rfl | rfl
    · exact be_bytes _ _
    · exact h
    · exact be_bytes _ _

theorem authDigest_sound : Sound Tryd.prog 13 fun args k => ∃ u : Au, args = [.a u.row] ∧ u.ok ∧ bytesOk u.a ∧ k [.a [.r 32 (u8s u.dig)]] := by
  refine Sound.of_body tt_ok ent_ok Tryd.func13 rfl ?_
  rintro ar har Γ hΓ args k ⟨u, hargs, huk, hub, hk⟩
  have callX : ∀ (W s : List (List PS)) (w : List Int) (C : List (List PS)) (Γ : Ctx) (d' : Nat) (k : List PR → Prop), Γ = ctx Tryd.prog d' → C = W → W = w.map b8 → w.length ≤ 2 ^ 40 → k [.a (rtx W)] → Γ.g 35 [.s (.sl C s)] k := fun W s w C Γ d' k hΓ hc hw hl hk => call_by' hΓ text_sound ⟨w, s, by rw [hc, hw], hl, by rw [hw] at hk; exact hk⟩
  have callL : ∀ (J : List (List PS)) (its : List It) (Γ : Ctx) (d' : Nat) (k : List PR → Prop), Γ = ctx Tryd.prog d' → strips its = its → J = rowsOf its → bulks its ≤ 2 ^ 40 → k [.a [.c (.v (.bool true)), .c (.sl [] []), .c (.sl J [])]] → Γ.g 25 [.s (.sl J [])] k := fun J its Γ d' k hΓ hs hJ hl hk => call_by' hΓ list_sound ⟨its, [], by rw [hJ], hl, by rw [hs]; rw [hJ] at hk; exact hk⟩
  have callN : ∀ (n : Nat) (x : List Value) (D : List (List PS)) (Γ : Ctx) (d' : Nat) (k : List PR → Prop), Γ = ctx Tryd.prog d' → x = w4 n → n < M256 → D = (numB n).map b8 → k [.a (rtx D)] → Γ.g 23 [.a [.r 4 x]] k := fun n x D Γ d' k hΓ hx hn hD hk => call_by' hΓ rNumber_sound ⟨n, by unfold pw; rw [hx], hn, by rw [hD] at hk; exact hk⟩
  have callS : ∀ (n : Nat) (z : Int) (D : List (List PS)) (Γ : Ctx) (d' : Nat) (k : List PR → Prop), Γ = ctx Tryd.prog d' → z = n → n < 18446744073709551616 → D = (numB n).map b8 → k [.a (rtx D)] → Γ.g 36 [.s (.v (.int .u64 z))] k := fun n z D Γ d' k hΓ hz hn hD hk => call_by' hΓ rSmall_sound ⟨n, by rw [hz], hn, by rw [hD] at hk; exact hk⟩
  obtain ⟨c1, hc1⟩ : ∃ x, x = w4 u.ch := ⟨_, rfl⟩
  obtain ⟨c2, hc2⟩ : ∃ x, x = u8s u.a := ⟨_, rfl⟩
  obtain ⟨c3, hc3⟩ : ∃ x : Int, x = u.no := ⟨_, rfl⟩
  obtain ⟨c4, hc4⟩ : ∃ x : Int, x = u.pa := ⟨_, rfl⟩
  obtain ⟨c5, hc5⟩ : ∃ x, x = w4 u.r := ⟨_, rfl⟩
  obtain ⟨c6, hc6⟩ : ∃ x, x = w4 u.s := ⟨_, rfl⟩
  obtain ⟨D1, hD1⟩ : ∃ x, x = (numB u.ch).map b8 := ⟨_, rfl⟩
  obtain ⟨D2, hD2⟩ : ∃ x, x = u.a.map b8 := ⟨_, rfl⟩
  obtain ⟨D3, hD3⟩ : ∃ x, x = (numB u.no).map b8 := ⟨_, rfl⟩
  obtain ⟨E, hE⟩ : ∃ x, x = (encL u.ts).map b8 := ⟨_, rfl⟩
  obtain ⟨H, hH⟩ : ∃ x, x = u8s u.dig := ⟨_, rfl⟩
  have hcc : ar.cells c2 = D2 := by rw [hc2, hD2, bytes_cells ar har]
  have hts := ts_ok huk
  have hbt := ts_bytes hub
  have hel : (encL u.ts).length ≤ 200 := by
    have := hd_len (f := 192) (n := (encB u.ts).length) (by omega)
    rw [encL, List.length_append]; omega
  obtain ⟨u1, u2, u3, u4, u5, u6⟩ := huk
  obtain ⟨J, hJ⟩ : ∃ J, J = rowsOf (u.ts.map It.txt) := ⟨_, rfl⟩
  have hJ2 : J = [rtx D1, rtx D2, rtx D3] := by rw [hJ, hD1, hD2, hD3]; rfl
  have hbk : bulks (u.ts.map It.txt) ≤ 2 ^ 40 := by
    have := hts.2.1
    simp only [It.lst, It.bulk, List.length_nil] at this
    omega
  have callJ := fun (Γ : Ctx) (d' : Nat) (k : List PR → Prop) (h1 : Γ = ctx Tryd.prog d') (h2) => callL J (u.ts.map It.txt) Γ d' k h1 (by rfl) hJ hbk h2
  have callE : ∀ (Γ : Ctx) (d' : Nat) (k : List PR → Prop), Γ = ctx Tryd.prog d' → k [.s (.sl E []), .s (.v (.int .i64 0))] → Γ.g 24 [.a [.c (.v (.bool true)), .c (.sl [] []), .c (.sl J [])]] k := fun Γ d' k hΓ hk => call_by' hΓ encode_sound ⟨u.ts, by rw [hJ]; rfl, by simp [Au.ts], by omega, by omega, hts.2.2, by rw [← hE]; exact hk⟩
  have callK : ∀ (Γ : Ctx) (d' : Nat) (k : List PR → Prop) (R : Prop), Γ = ctx Tryd.prog d' → k [.a [.r 32 H]] → Γ.g 37 [.s (.sl [[.c (.sl [b8 5] [])], [.c (.sl E [])]] [])] k ∨ R := fun Γ d' k R hΓ hk => call_by hΓ sum_sound ⟨[⟨[5], []⟩, ⟨encL u.ts, []⟩], [], by rw [hE]; rfl, by simp, by simp [join]; omega, by simp only [join, List.append_nil, List.singleton_append]; intro b hb; rcases List.mem_cons.1 hb with rfl | hb; omega; exact hbt b hb, by simp, by rw [hH] at hk; simpa [join, Au.dig] using hk⟩
  rw [hJ2] at callJ callE
  have hrow : u.row = [.r 4 c1, .r 20 c2, .c (.v (.int .u64 c3)), .c (.v (.int .u64 c4)), .r 4 c5, .r 4 c6] := by rw [hc1, hc2, hc3, hc4, hc5, hc6]; rfl
  rw [← hH] at hk
  rw [hrow] at hargs
  subst hargs
  conv => cbv
  refine ⟨by rw [har]; kernel_rfl, ?_⟩
  refine callN u.ch c1 D1 _ _ _ hΓ hc1 u1 hD1 ?_
  conv => cbv
  refine callX D2 [] u.a _ _ _ _ hΓ hcc hD2 (by omega) ?_
  conv => cbv
  refine callS u.no c3 D3 _ _ _ hΓ hc3 u3 hD3 ?_
  conv => cbv
  refine callJ _ _ _ hΓ ?_
  conv => cbv
  refine callE _ _ _ hΓ ?_
  conv => cbv
  refine callK _ _ _ _ hΓ ?_
  conv => cbv
  exact hk
end Go.Eng
