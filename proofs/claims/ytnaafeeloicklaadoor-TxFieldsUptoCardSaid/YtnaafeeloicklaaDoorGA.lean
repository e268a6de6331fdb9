/-
  tx.kind, wanted; rlp.GetText. Condition: bytes in their range.
  What tx.decode reads, as plain data. No program in sight.
  What is read of bytes is written as these bytes, and what is written is read back. No program in sight.
-/
import Derived.Test.YtnaafeeloicklaaDoorLA
import Derived.Test.YtnaafeeloicklaaDoorRE
import Derived.Test.YtnaafeeloicklaaDoorCA
namespace Go.Eng
open Go Go.Proofs
set_option maxRecDepth 100000
set_option maxHeartbeats 4000000
set_option linter.unusedVariables false

/-- The type that the first byte tells, the bytes of the list, the error. -/
def kindR : List Int → Int × List Int × Int
  | [] => (0, [], 0)
  | c :: b => if 192 ≤ c then (0, c :: b, 0) else if 128 ≤ c then (0, [], 157) else if c = 0 ∨ 5 ≤ c then (0, [], 150) else (c, b, 0)

theorem kind15_sound : Sound Tryd.prog 47 fun args k => ∃ (c : Int) (b : List Int) (sd : List (List PS)), args = [.s (.sl ((c :: b).map b8) sd)] ∧ bytesOk (c :: b) ∧ b.length ≤ 2 ^ 40 ∧ (∀ z ∈ sd, rlen z = 1) ∧
    ∀ s, (∀ z ∈ s, rlen z = 1) → k [.s (.v (.int .i64 (kindR (c :: b)).1)), .s (.sl ((kindR (c :: b)).2.1.map b8) s), .s (.v (.int .i64 (kindR (c :: b)).2.2))] := by
  refine Sound.of_body tt_ok ent_ok Tryd.func47 rfl ?_
  rintro ar har Γ hΓ args k ⟨c, b, sd, hargs, hok, hl, hsd, hk⟩
  obtain ⟨D, hD⟩ : ∃ D, D = (c :: b).map b8 := ⟨_, rfl⟩
  have hcr := hok c (by simp)
  have hDn : D.length = b.length + 1 := by rw [hD, List.length_map, List.length_cons]
  have hDy : ∀ z ∈ D, rlen z = 1 := by rw [hD]; exact b8_all _
  have rb : D[(0 : Int).toNat]? = some [.c (.v (.int .u8 c))] := by rw [hD]; rfl
  have hb0 : (0 : Int) ≤ 0 := Int.le_refl 0
  have e1 : ar.frm D 1 = b.map b8 := by rw [frmIs har, hD]; rfl
  obtain ⟨C, hC⟩ : ∃ C, ar.cv .i64 c = C := ⟨_, rfl⟩
  have hCc : C = c := by rw [← hC, cvI64 har (by omega)]
  rw [← hD] at hargs
  simp only [kindR] at hk
  have s2 : (0 : Int) ≤ 1 ∧ (1 : Int) ≤ (D.length : Int) ∧ (∀ z ∈ D, rlen z = 1) ∧ ∀ z ∈ sd, rlen z = 1 := ⟨by omega, by omega, hDy, hsd⟩
  conv at hC => lhs; cbv
  subst hargs
  conv => cbv
  refine ⟨_, hb0, rb, rfl, ?_⟩
  conv => cbv
  rw [hC]
  refine ⟨fun h => ?_, fun h => ?_⟩
  · have g := cGe har (a := C) (b := 192) h
    rw [if_pos (by omega)] at hk
    have hk := hk sd hsd
    rw [← hD] at hk
    conv => cbv
    exact hk
  have g := cNge har (a := C) (b := 192) h
  rw [if_neg (by omega)] at hk
  conv => cbv
  refine ⟨fun h => ?_, fun h => ?_⟩
  · have g2 := cGe har (a := C) (b := 128) h
    rw [if_pos (by omega)] at hk
    have hk := hk [] (by simp)
    conv => cbv
    exact hk
  have g2 := cNge har (a := C) (b := 128) h
  rw [if_neg (by omega)] at hk
  conv => cbv
  have fail : (c = 0 ∨ 5 ≤ c) → k [.s (.v (.int .i64 0)), .s (.sl [] []), .s (.v (.int .i64 150))] := fun h => by
    rw [if_pos h] at hk; exact hk [] (by simp)
  refine ⟨fun h => ?_, fun h => ?_⟩
  rotate_left
  · have g3 := cEq har (a := C) (b := 0) h
    have hk := fail (.inl (by omega))
    conv => cbv
    exact hk
  have g3 := cNeq har (a := C) (b := 0) h
  conv => cbv
  refine ⟨fun h => ?_, fun h => ?_⟩
  · have g4 := cGe har (a := C) (b := 5) h
    have hk := fail (.inr (by omega))
    conv => cbv
    exact hk
  have g4 := cNge har (a := C) (b := 5) h
  rw [if_neg (by omega)] at hk
  have hk := hk sd hsd
  rw [← e1, ← hCc] at hk
  conv => cbv
  exact ⟨by rw [har]; kernel_rfl, fun _ => s2, hk⟩

theorem wanted_sound : Sound Tryd.prog 49 fun args k => ∃ (it : It) (l : Bool), args = [.a it.row, .s (.v (.bool l))] ∧ k [.s (.v (.int .i64 (if it.l = l then 0 else 75)))] := by
  refine Sound.of_body tt_ok ent_ok Tryd.func49 rfl ?_
  rintro ar har Γ hΓ args k ⟨⟨a, d, sd, its, ss⟩, l, hargs, hk⟩
  obtain ⟨D, hD⟩ : ∃ D, D = d.map b8 := ⟨_, rfl⟩
  obtain ⟨I, hI⟩ : ∃ I, I = rowsOf its := ⟨_, rfl⟩
  have hrow : (It.mk a d sd its ss).row = [.c (.v (.bool a)), .c (.sl D sd), .c (.sl I ss)] := by rw [hD, hI]; rfl
  have hk : k [.s (.v (.int .i64 (if a = l then 0 else 75)))] := hk
  have hb : ar.bb .neq a l = !(a == l) := bbnIs har a l
  rw [hrow] at hargs
  clear hrow hD hI
  subst hargs
  conv => cbv
  refine ⟨fun h => ?_, fun h => ?_⟩
  · have g : a ≠ l := fun e => by
      have h2 : ar.bb .neq a l = true := h
      rw [hb, e] at h2; simp at h2
    rw [if_neg g] at hk
    conv => cbv
    exact hk
  · have g : a = l := by
      have h2 : ar.bb .neq a l = false := h
      rw [hb] at h2; simpa using h2
    rw [if_pos g] at hk
    conv => cbv
    exact hk

def It.getText (it : It) : List Int × Int := if it.ke false = 0 then (it.d, 0) else ([], it.ke false)
theorem getText_sound : Sound Tryd.prog 73 fun args k => ∃ (it : It), args = [.a it.row] ∧ it.bulk ≤ 2 ^ 40 ∧ k [.s (.sl (it.getText.1.map b8) []), .s (.v (.int .i64 it.getText.2))] := by
  refine Sound.of_body tt_ok ent_ok Tryd.func73 rfl ?_
  rintro ar har Γ hΓ args k ⟨⟨l, d, sd, its, ss⟩, hargs, hb, hk⟩
  obtain ⟨e, he⟩ : ∃ e, e = (It.mk l d sd its ss).ke false := ⟨_, rfl⟩
  obtain ⟨D, hD⟩ : ∃ D, D = d.map b8 := ⟨_, rfl⟩
  obtain ⟨I, hI⟩ : ∃ I, I = rowsOf its := ⟨_, rfl⟩
  have hrow : (It.mk l d sd its ss).row = [.c (.v (.bool l)), .c (.sl D sd), .c (.sl I ss)] := by rw [hD, hI]; rfl
  have hd : d.length ≤ 2 ^ 40 := by simp only [It.bulk] at hb; omega
  have hg : (It.mk l d sd its ss).getText = if e = 0 then (d, 0) else ([], e) := by rw [he]; rfl
  have callK : ∀ (Γ : Ctx) (d' : Nat) (k : List PR → Prop) (R : Prop), Γ = ctx Tryd.prog d' → k [.s (.v (.int .i64 e))] → Γ.g 87 [.a [.c (.v (.bool l)), .c (.sl D sd), .c (.sl I ss)], .s (.v (.bool false))] k ∨ R := fun Γ d' k R hΓ hk => call_by hΓ kind_sound ⟨.mk l d sd its ss, false, by rw [hrow], by rw [he] at hk; exact hk⟩
  have callC : ∀ (Γ : Ctx) (d' : Nat) (k : List PR → Prop) (R : Prop), Γ = ctx Tryd.prog d' → k [.s (.sl D [])] → Γ.g 56 [.s (.sl D sd)] k ∨ R := fun Γ d' k R hΓ hk => call_by hΓ clone_sound ⟨d, sd, by rw [hD], hd, by rw [← hD]; exact hk⟩
  rw [hg] at hk
  rw [hrow] at hargs
  clear hg he
  subst hargs
  conv => cbv
  refine callK _ _ _ _ hΓ ?_
  conv => cbv
  refine ⟨fun h => ?_, fun h => ?_⟩
  · have g := cNe har (a := e) (b := 0) h
    rw [if_neg g] at hk
    conv => cbv
    exact hk
  · have g := cNne har (a := e) (b := 0) h
    rw [if_pos g] at hk
    have hk : k [.s (.sl D []), .s (.v (.int .i64 0))] := by rw [hD]; exact hk
    conv => cbv
    refine callC _ _ _ _ hΓ ?_
    conv => cbv
    exact hk
end Go.Eng
namespace Go.Eng
open Go Go.Proofs
set_option linter.unusedVariables false

def setNum (u : Tx) (f : Int) (n : Nat) : Tx :=
  if f = 2 then { u with pr := n } else if f = 3 then { u with ti := n } else if f = 4 then { u with ca := n } else if f = 7 then { u with va := n } else if f = 10 then { u with bc := n }
  else if f = 13 then { u with v := n } else if f = 14 then { u with r := n } else { u with s := n }
def onE {α : Type} (e : Int) (x : α) : Except Int α := if e = 0 then .ok x else .error e
def recvR (u : Tx) (x : It) : Except Int Tx :=
  if x.l = false then (if x.d.length = 0 then .ok { u with cr := true } else if x.d.length = 20 then .ok { u with to := x.d } else .error 77) else .error 75
/-- The error of the first that is no text of 32 bytes. -/
def blobE : List It → Int
  | [] => 0
  | y :: l => if (y.getFixed 32).2 = 0 then blobE l else (y.getFixed 32).2
def blobL (l : List It) : List (List Int) := l.map fun y => (y.getFixed 32).1
def blobR (u : Tx) (x : It) : Except Int Tx :=
  if x.l = true then onE (blobE x.its) { u with bl := blobL x.its, sbl := [] } else .error 75
/-- A field is read. -/
def readF (u : Tx) (f : Int) (x : It) : Except Int Tx :=
  if f = 0 then onE (x.num 8).2 { u with ch := (x.num 8).1 } else if f = 1 then onE (x.num 8).2 { u with no := (x.num 8).1 } else if f = 5 then onE (x.num 8).2 { u with ga := (x.num 8).1 }
  else if f = 6 then recvR u x else if f = 8 then onE x.getText.2 { u with d := x.getText.1, sd := [] }
  else if f = 9 then (match parseOf x with | some es => .ok { u with ac := es, sac := [] } | none => .error 140)
  else if f = 11 then blobR u x
  else if f = 12 then (match parseAOf x with | some us => .ok { u with au := us, sau := [] } | none => .error 141)
  else onE (x.num 32).2 (setNum u f (x.num 32).1)
def decF (u : Tx) : List Int → List It → Except Int Tx
  | f :: fs, x :: xs => match readF u f x with
    | .error e => .error e
    | .ok u' => decF u' fs xs
  | _, _ => .ok u
def zeroTx (ty : Int) : Tx := ⟨ty, 0, 0, 0, 0, 0, 0, false, z20s, 0, [], [], [], [], 0, [], [], [], [], 0, 0, 0⟩
def finTx (u : Tx) : Except Int Tx := onE (encR u).2 u
def endTx (u : Tx) : Except Int Tx := if u.ty = 0 then (if chE u.v = 0 then finTx { u with ch := chC u.v } else .error (chE u.v)) else finTx u
def fieldsTx (ty : Int) (it : It) : Except Int Tx :=
  if it.l = true then (if it.its.length = (txFs ty).length then (match decF (zeroTx ty) (txFs ty) it.its with | .error e => .error e | .ok u => endTx u) else .error 151) else .error 75
/-- The transaction that bytes are. -/
def decTx (d : List Int) : Except Int Tx :=
  if (kindR d).2.2 = 0 then (match decR (kindR d).2.1 with | .error e => .error e | .ok it => fieldsTx (kindR d).1 it) else .error (kindR d).2.2

theorem onE_ok {α : Type} {e : Int} {x y : α} (h : onE e x = .ok y) : e = 0 ∧ x = y := by
  unfold onE at h
  split at h
  · rename_i h0; cases h; exact ⟨h0, rfl⟩
  · cases h

theorem blobE_zero : ∀ {l : List It}, blobE l = 0 → ∀ y ∈ l, (y.getFixed 32).2 = 0
  | [], _, y, hy => by cases hy
  | x :: l, h, y, hy => by
    unfold blobE at h
    split at h
    · rename_i h0
      rcases List.mem_cons.1 hy with rfl | hy
      · exact h0
      · exact blobE_zero h y hy
    · rename_i h0; exact absurd h h0
theorem blobE_append (a : List It) (y : It) : blobE a = 0 → blobE (a ++ [y]) = (y.getFixed 32).2 := by
  induction a with
  | nil => intro _; simp only [List.nil_append, blobE]; split <;> simp_all
  | cons x a ih =>
    intro h
    have hx := blobE_zero h x (by simp)
    have ha : blobE a = 0 := by unfold blobE at h; rw [if_pos hx] at h; exact h
    simp only [List.cons_append, blobE]
    rw [if_pos hx]
    exact ih ha
theorem blobE_first {a b : List It} {y : It} (h : blobE a = 0) (hy : (y.getFixed 32).2 ≠ 0) : blobE (a ++ y :: b) = (y.getFixed 32).2 := by
  induction a with
  | nil => simp only [List.nil_append, blobE]; rw [if_neg hy]
  | cons x a ih =>
    have hx := blobE_zero h x (by simp)
    have ha : blobE a = 0 := by unfold blobE at h; rw [if_pos hx] at h; exact h
    simp only [List.cons_append, blobE]
    rw [if_pos hx]
    exact ih ha

/-! ### What is read keeps the ranges -/
theorem setNum_ok {u : Tx} (h : u.ok) {n : Nat} (hn : n < M256) (f : Int) : (setNum u f n).ok := by
  unfold setNum
  obtain ⟨h1, h2, h3, h4, h5, h6, h7, h8, h9, h10, h11, h12, h13, h14, h15, h16, h17, h18⟩ := h
  (repeat' split) <;> exact ⟨by assumption, by assumption, by assumption, by first | exact hn | assumption, by first | exact hn | assumption, by first | exact hn | assumption, by assumption, by assumption, by first | exact hn | assumption, by assumption, by first | exact hn | assumption, by assumption, by assumption, by first | exact hn | assumption, by first | exact hn | assumption, by first | exact hn | assumption, by assumption, by assumption⟩

theorem readF_ok {u u' : Tx} {f : Int} {x : It} (h : u.ok) (hb : x.byt) (hr : readF u f x = .ok u') : u'.ok := by
  have n8 : (x.num 8).1 < 18446744073709551616 := num_lt hb
  have n32 : (x.num 32).1 < M256 := num_lt hb
  have hbd : bytesOk x.d := by cases x; exact hb.1
  unfold readF at hr
  split at hr
  · obtain ⟨_, rfl⟩ := onE_ok hr
    exact { h with ch := n8 }
  · split at hr
    · obtain ⟨_, rfl⟩ := onE_ok hr
      exact { h with no := n8 }
    · split at hr
      · obtain ⟨_, rfl⟩ := onE_ok hr
        exact { h with ga := n8 }
      · split at hr
        · unfold recvR at hr
          split at hr
          · split at hr
            · cases hr; exact { h with }
            · split at hr
              · rename_i h20; cases hr; exact { h with to := h20, tob := hbd }
              · cases hr
          · cases hr
        · split at hr
          · obtain ⟨h0, rfl⟩ := onE_ok hr
            refine { h with db := ?_ }
            unfold It.getText at h0 ⊢
            split
            · exact hbd
            · intro b hb; cases hb
          · split at hr
            · split at hr
              · rename_i es hes
                cases hr
                refine { h with ac := fun e he => ?_ }
                have h2 := (parse_strip hes).2 e he
                have h3 := (parse_strip hes).1
                have h4 : (It.lst (esIts es)).byt := by rw [← h3]; exact byt_strip x hb
                have h5 : e.it.byt := byts_mem h4.2 (List.mem_map.2 ⟨e, he, rfl⟩)
                obtain ⟨_, ha, hk, _⟩ := h5
                refine ⟨h2.1, ha.1, fun w hw => ⟨h2.2 w hw, ?_⟩⟩
                exact (byts_mem hk.2 (List.mem_map.2 ⟨w, hw, rfl⟩)).1
              · cases hr
            · split at hr
              · unfold blobR at hr
                split at hr
                · obtain ⟨h0, rfl⟩ := onE_ok hr
                  refine { h with bl := fun w hw => ?_ }
                  obtain ⟨y, hy, rfl⟩ := List.mem_map.1 hw
                  have h1 := blobE_zero h0 y hy
                  have hby : byts x.its := by cases x; exact hb.2
                  exact ⟨getFixed_len h1, getFixed_byt (byts_mem hby hy) h1⟩
                · cases hr
              · split at hr
                · split at hr
                  · rename_i us hus
                    cases hr
                    exact { h with au := (parseA_strip hb hus).2.1 }
                  · cases hr
                · obtain ⟨_, rfl⟩ := onE_ok hr
                  exact setNum_ok h n32 f

/-- The lists' sizes. -/
structure Tx.lim (t : Tx) (n : Nat) : Prop where
  d : t.d.length ≤ n
  ac : bulks (esIts t.ac) ≤ n
  bl : 33 * t.bl.length ≤ n
  au : bulks (usIts t.au) ≤ n
theorem Tx.lim.mono {t : Tx} {n m : Nat} (h : t.lim n) (hm : n ≤ m) : t.lim m := ⟨Nat.le_trans h.d hm, Nat.le_trans h.ac hm, Nat.le_trans h.bl hm, Nat.le_trans h.au hm⟩
theorem Tx.lim.fit {t : Tx} (h : t.lim (2 ^ 26)) : t.fit := ⟨by have := h.d; omega, by have := h.ac; omega, by have := h.bl; omega, by have := h.au; omega⟩
theorem us_least : ∀ {us : List Au}, (∀ u ∈ us, u.a.length = 20) → 21 * us.length ≤ bulks (usIts us)
  | [], _ => Nat.zero_le _
  | u :: us, h => by
    have h1 := us_least (us := us) fun x hx => h x (by simp [hx])
    have h2 := h u (by simp)
    show _ ≤ u.it.bulk + bulks (usIts us)
    have h3 : 21 ≤ u.it.bulk := by
      simp only [Au.it, It.lst, It.bulk, Au.parts, bulks, numIt, It.txt, h2, List.length_nil]; omega
    rw [List.length_cons]; omega

theorem setNum_lim {u : Tx} {m : Nat} (h : u.lim m) (f : Int) (n : Nat) : (setNum u f n).lim m := by
  unfold setNum
  (repeat' split) <;> exact ⟨h.d, h.ac, h.bl, h.au⟩

theorem readF_lim {u u' : Tx} {f : Int} {x : It} {n : Nat} (h : u.lim n) (hb : x.byt) (hx : x.bulk ≤ n) (hr : readF u f x = .ok u') : u'.lim n := by
  have hbu := strip_bulk x
  unfold readF at hr
  split at hr
  · obtain ⟨_, rfl⟩ := onE_ok hr; exact { h with }
  · split at hr
    · obtain ⟨_, rfl⟩ := onE_ok hr; exact { h with }
    · split at hr
      · obtain ⟨_, rfl⟩ := onE_ok hr; exact { h with }
      · split at hr
        · unfold recvR at hr
          split at hr
          · split at hr
            · cases hr; exact { h with }
            · split at hr
              · cases hr; exact { h with }
              · cases hr
          · cases hr
        · split at hr
          · obtain ⟨h0, rfl⟩ := onE_ok hr
            refine { h with d := ?_ }
            show x.getText.1.length ≤ n
            unfold It.getText
            split
            · cases x; simp only [It.bulk] at hx; show List.length _ ≤ n; simp only [It.d]; omega
            · exact Nat.zero_le _
          · split at hr
            · split at hr
              · rename_i es hes
                cases hr
                have h3 := (parse_strip hes).1
                have h4 : (It.lst (esIts es)).bulk = x.bulk := by rw [← h3, hbu]
                simp only [It.lst, It.bulk, List.length_nil] at h4
                refine { h with ac := ?_ }
                show bulks (esIts es) ≤ n
                omega
              · cases hr
            · split at hr
              · unfold blobR at hr
                split at hr
                · obtain ⟨h0, rfl⟩ := onE_ok hr
                  refine { h with bl := ?_ }
                  have key : ∀ l : List It, (∀ y ∈ l, (y.getFixed 32).2 = 0) → 33 * l.length ≤ bulks l := by
                    intro l
                    induction l with
                    | nil => intro _; exact Nat.zero_le _
                    | cons y l ih =>
                      intro hl
                      have h1 := getFixed_strip (hl y (by simp))
                      have h2 := getFixed_len (hl y (by simp))
                      have h3 := strip_bulk y
                      rw [h1] at h3
                      simp only [It.txt, It.bulk, bulks, h2] at h3
                      have := ih fun z hz => hl z (by simp [hz])
                      simp only [List.length_cons, bulks]; omega
                  have h5 := key x.its (blobE_zero h0)
                  show 33 * (blobL x.its).length ≤ n
                  rw [blobL, List.length_map]
                  cases x; simp only [It.bulk] at hx; simp only [It.its] at h5 ⊢; omega
                · cases hr
              · split at hr
                · split at hr
                  · rename_i us hus
                    cases hr
                    obtain ⟨h3, h4, _⟩ := parseA_strip hb hus
                    have h5 := us_least (us := us) fun u hu => (h4 u hu).1.2.1
                    have h6 : (It.lst (usIts us)).bulk = x.bulk := by rw [← h3, hbu]
                    simp only [It.lst, It.bulk, List.length_nil] at h6
                    refine { h with au := ?_ }
                    show bulks (usIts us) ≤ n
                    omega
                  · cases hr
                · obtain ⟨_, rfl⟩ := onE_ok hr
                  exact setNum_lim h f _
theorem setNum_ty (u : Tx) (f : Int) (n : Nat) : (setNum u f n).ty = u.ty := by unfold setNum; (repeat' split) <;> rfl
theorem readF_ty {u u' : Tx} {f : Int} {x : It} (hr : readF u f x = .ok u') : u'.ty = u.ty := by
  unfold readF at hr
  split at hr
  · obtain ⟨_, rfl⟩ := onE_ok hr; rfl
  · split at hr
    · obtain ⟨_, rfl⟩ := onE_ok hr; rfl
    · split at hr
      · obtain ⟨_, rfl⟩ := onE_ok hr; rfl
      · split at hr
        · unfold recvR at hr
          split at hr
          · split at hr
            · cases hr; rfl
            · split at hr
              · cases hr; rfl
              · cases hr
          · cases hr
        · split at hr
          · obtain ⟨h0, rfl⟩ := onE_ok hr; rfl
          · split at hr
            · split at hr
              · cases hr; rfl
              · cases hr
            · split at hr
              · unfold blobR at hr
                split at hr
                · obtain ⟨h0, rfl⟩ := onE_ok hr; rfl
                · cases hr
              · split at hr
                · split at hr
                  · cases hr; rfl
                  · cases hr
                · obtain ⟨_, rfl⟩ := onE_ok hr
                  exact setNum_ty u f _
theorem readF_bl {u u' : Tx} {f : Int} {x : It} (hf : f ≠ 11) (hr : readF u f x = .ok u') : u'.bl = u.bl := by
  unfold readF at hr
  split at hr
  · obtain ⟨_, rfl⟩ := onE_ok hr; rfl
  · split at hr
    · obtain ⟨_, rfl⟩ := onE_ok hr; rfl
    · split at hr
      · obtain ⟨_, rfl⟩ := onE_ok hr; rfl
      · split at hr
        · unfold recvR at hr
          split at hr
          · split at hr
            · cases hr; rfl
            · split at hr
              · cases hr; rfl
              · cases hr
          · cases hr
        · split at hr
          · obtain ⟨h0, rfl⟩ := onE_ok hr; rfl
          · split at hr
            · split at hr
              · cases hr; rfl
              · cases hr
            · split at hr
              · split at hr
                · cases hr; rfl
                · cases hr
              · obtain ⟨_, rfl⟩ := onE_ok hr
                unfold setNum; (repeat' split) <;> rfl
theorem rF0 (u : Tx) (x : It) : readF u 0 x = onE (x.num 8).2 { u with ch := (x.num 8).1 } := by unfold readF; rw [if_pos rfl]
theorem rF1 (u : Tx) (x : It) : readF u 1 x = onE (x.num 8).2 { u with no := (x.num 8).1 } := by unfold readF; rw [if_neg (by decide), if_pos rfl]
theorem rF5 (u : Tx) (x : It) : readF u 5 x = onE (x.num 8).2 { u with ga := (x.num 8).1 } := by unfold readF; rw [if_neg (by decide), if_neg (by decide), if_pos rfl]
theorem rF6 (u : Tx) (x : It) : readF u 6 x = recvR u x := by unfold readF; rw [if_neg (by decide), if_neg (by decide), if_neg (by decide), if_pos rfl]
theorem rF8 (u : Tx) (x : It) : readF u 8 x = onE x.getText.2 { u with d := x.getText.1, sd := [] } := by unfold readF; rw [if_neg (by decide), if_neg (by decide), if_neg (by decide), if_neg (by decide), if_pos rfl]
theorem rF9 (u : Tx) (x : It) : readF u 9 x = match parseOf x with | some es => .ok { u with ac := es, sac := [] } | none => .error 140 := by unfold readF; rw [if_neg (by decide), if_neg (by decide), if_neg (by decide), if_neg (by decide), if_neg (by decide), if_pos rfl]
theorem rF11 (u : Tx) (x : It) : readF u 11 x = blobR u x := by unfold readF; rw [if_neg (by decide), if_neg (by decide), if_neg (by decide), if_neg (by decide), if_neg (by decide), if_neg (by decide), if_pos rfl]
theorem rF12 (u : Tx) (x : It) : readF u 12 x = match parseAOf x with | some us => .ok { u with au := us, sau := [] } | none => .error 141 := by unfold readF; rw [if_neg (by decide), if_neg (by decide), if_neg (by decide), if_neg (by decide), if_neg (by decide), if_neg (by decide), if_neg (by decide), if_pos rfl]
theorem rFn {f : Int} (h0 : f ≠ 0) (h1 : f ≠ 1) (h5 : f ≠ 5) (h6 : f ≠ 6) (h8 : f ≠ 8) (h9 : f ≠ 9) (h11 : f ≠ 11) (h12 : f ≠ 12) (u : Tx) (x : It) : readF u f x = onE (x.num 32).2 (setNum u f (x.num 32).1) := by
  unfold readF; rw [if_neg h0, if_neg h1, if_neg h5, if_neg h6, if_neg h8, if_neg h9, if_neg h11, if_neg h12]
theorem onE_err {α : Type} {e : Int} (x : α) (h : e ≠ 0) : onE e x = .error e := if_neg h
theorem onE_fine {α : Type} {e : Int} (x : α) (h : e = 0) : onE e x = .ok x := if_pos h
theorem txFs_nodup {ty : Int} (h : 0 ≤ ty ∧ ty < 5) : (txFs ty).Nodup := by
  have h2 : ty = 0 ∨ ty = 1 ∨ ty = 2 ∨ ty = 3 ∨ ty = 4 := by omega
  rcases h2 with rfl | rfl | rfl | rfl | rfl <;> decide
theorem txFs_new {ty : Int} (h : 0 ≤ ty ∧ ty < 5) {p : Nat} {f : Int} (hf : (txFs ty)[p]? = some f) : f ∉ (txFs ty).take p := fun hm => by
  have h1 := txFs_nodup h
  rw [← List.take_append_drop p (txFs ty), List.nodup_append] at h1
  obtain ⟨hlt, e⟩ := List.getElem?_eq_some_iff.1 hf
  refine h1.2.2 f hm f ?_ rfl
  rw [← e, List.drop_eq_getElem_cons hlt]
  exact List.mem_cons_self ..
theorem decF_ty : ∀ {fs : List Int} {xs : List It} {u u' : Tx}, decF u fs xs = .ok u' → u'.ty = u.ty
  | [], _, _, _, h => by cases h; rfl
  | _ :: _, [], _, _, h => by cases h; rfl
  | f :: fs, x :: xs, u, u', h => by
    rw [decF] at h
    split at h
    · cases h
    · rename_i u1 h1
      rw [decF_ty h, readF_ty h1]
end Go.Eng
namespace Go.Eng
open Go Go.Proofs
set_option linter.unusedVariables false
set_option maxRecDepth 10000

theorem blen_pos {n : Nat} (h : 1 ≤ n) : 1 ≤ blen n := by
  have := lt_pow_blen n
  rcases Nat.eq_zero_or_pos (blen n) with h0 | h0
  · rw [h0] at this; omega
  · exact h0
theorem numB_head {n : Nat} (h : 1 ≤ n) : ∃ b l, numB n = b :: l ∧ b ≠ 0 := by
  have h1 := strict_numB n
  cases hb : numB n with
  | nil =>
    have := congrArg List.length hb
    rw [numB, be_length, List.length_nil] at this
    have := blen_pos h
    omega
  | cons b l =>
    refine ⟨b, l, rfl, fun h0 => ?_⟩
    rw [hb, strictR, if_pos h0] at h1
    cases h1

def kindH (l : Bool) : Int := if l = true then 192 else 128

/-- The head that is written is the one that is cut off. -/
theorem cut_hd (l : Bool) (q r : List Int) (hq : q.length < 18446744073709551616) : cutR (hd (kindH l) q.length ++ (q ++ r)) = cutF l q.length (q ++ r) := by
  have cutcase : ∀ (c : Int) (m : Nat) (b : List Int), c = kindH l + m → m ≤ 63 → cutR (c :: b) = cutL l m b := fun c m b hc hm => by
    cases l with
    | true =>
      have hc : c = 192 + m := hc
      simp only [cutR]
      rw [if_neg (by omega), if_pos (by omega), show (c - 192).toNat = m by omega]
    | false =>
      have hc : c = 128 + m := hc
      simp only [cutR]
      rw [if_neg (by omega), if_neg (by omega), show (c - 128).toNat = m by omega]
  have hk : kindH l = 192 ∨ kindH l = 128 := by cases l; exact .inr rfl; exact .inl rfl
  unfold hd
  split
  · rename_i h55
    have e : (kindH l + (q.length : Int)) % 256 = kindH l + (q.length : Nat) := by omega
    rw [e, List.singleton_append, cutcase _ q.length _ rfl (by omega), cutL, if_neg (by omega)]
  · rename_i h55
    have h8 := bl_le64' hq
    have h1 := blen_pos (n := q.length) (by omega)
    have e : (kindH l + 55 + (blen q.length : Int)) % 256 = kindH l + ((55 + blen q.length : Nat) : Int) := by omega
    obtain ⟨b0, bt, hb0, hne⟩ := numB_head (n := q.length) (by omega)
    have hlen : (be q.length (blen q.length)).length = blen q.length := be_length _ _
    rw [e, List.cons_append, cutcase _ (55 + blen q.length) _ rfl (by omega), cutL, if_pos (by omega), show 55 + blen q.length - 55 = blen q.length by omega]
    have htk : (be q.length (blen q.length) ++ (q ++ r)).take (blen q.length) = be q.length (blen q.length) := by rw [List.take_left' hlen]
    have hdr : (be q.length (blen q.length) ++ (q ++ r)).drop (blen q.length) = q ++ r := by rw [List.drop_left' hlen]
    have hv : bev (be q.length (blen q.length)) = q.length := bev_numB _
    have hg : (be q.length (blen q.length) ++ (q ++ r)).getD 0 0 = b0 := by
      rw [show be q.length (blen q.length) = b0 :: bt from hb0]; rfl
    rw [htk, hdr, hv, hg, if_neg (by rw [List.length_append, hlen]; omega), if_neg (by omega), if_neg (by rw [List.length_append]; omega)]

theorem cutF_app {l : Bool} {q r : List Int} (h : l = false → q.length ≠ 1 ∨ 128 ≤ q.getD 0 0) : cutF l q.length (q ++ r) = (l, q, r, 0) := by
  unfold cutF
  rw [if_neg (by rw [List.length_append]; omega), if_neg, List.take_left' rfl, List.drop_left' rfl]
  rintro ⟨hl, h1, h2⟩
  rcases h hl with h3 | h3
  · exact h3 h1
  · obtain ⟨b, hb⟩ : ∃ b, q = [b] := by
      match q, h1 with
      | [b], _ => exact ⟨b, rfl⟩
    rw [hb] at h2 h3
    have h2 : b < 128 := h2
    have h3 : 128 ≤ b := h3
    omega

theorem cut_encT (q r : List Int) (hq : q.length < 18446744073709551616) (hb : bytesOk q) : cutR (encT q ++ r) = (false, q, r, 0) := by
  unfold encT
  split
  · rename_i h
    rw [List.append_assoc]
    exact (cut_hd false q r hq).trans (cutF_app fun _ => h)
  · rename_i h
    obtain ⟨b, hb1⟩ : ∃ b, q = [b] := by
      match q, (show q.length = 1 by omega) with
      | [b], _ => exact ⟨b, rfl⟩
    subst hb1
    have h2 : b < 128 := by
      have : ¬ 128 ≤ ([b] : List Int).getD 0 0 := fun h' => h (.inr h')
      have h3 : ([b] : List Int).getD 0 0 = b := rfl
      omega
    simp only [List.singleton_append, cutR]
    rw [if_pos h2]
theorem cut_encL (q r : List Int) (hq : q.length < 18446744073709551616) : cutR (hd 192 q.length ++ (q ++ r)) = (true, q, r, 0) :=
  (cut_hd true q r hq).trans (cutF_app fun h => by cases h)

theorem cutF_back {l l' : Bool} {n : Nat} {b q r : List Int} (h : cutF l n b = (l', q, r, 0)) : l' = l ∧ b = q ++ r ∧ q.length = n ∧ ¬ (l = false ∧ n = 1 ∧ b.getD 0 0 < 128) := by
  unfold cutF at h
  split at h
  · cases h
  · split at h
    · cases h
    · rename_i h1 h2
      cases h
      exact ⟨rfl, (List.take_append_drop _ _).symm, by rw [List.length_take]; omega, h2⟩

theorem cutL_back {l l' : Bool} {n : Nat} {b q r : List Int} (hb : bytesOk b) (hn : n ≤ 63) (h : cutL l n b = (l', q, r, 0)) : l' = l ∧ (kindH l + n) :: b = hd (kindH l) q.length ++ (q ++ r) ∧ (l = false → q.length ≠ 1 ∨ 128 ≤ q.getD 0 0) := by
  have hk : kindH l = 192 ∨ kindH l = 128 := by cases l; exact .inr rfl; exact .inl rfl
  have hbig : q.length ≠ 1 ∨ (l = false → q.length ≠ 1 ∨ 128 ≤ q.getD 0 0) → (l = false → q.length ≠ 1 ∨ 128 ≤ q.getD 0 0) := fun h => h.elim (fun h _ => .inl h) id
  unfold cutL at h
  split at h
  · rename_i h55
    split at h
    · cases h
    · rename_i h1
      split at h
      · cases h
      · rename_i h2
        split at h
        · cases h
        · rename_i h3
          obtain ⟨e1, e2, e3, e4⟩ := cutF_back h
          have h2' : b.getD 0 0 ≠ 0 ∧ 55 < bev (b.take (n - 55)) := by omega
          obtain ⟨b0, bt, hbb⟩ : ∃ b0 bt, b = b0 :: bt := by
            cases b with
            | nil => exact absurd rfl h2'.1
            | cons b0 bt => exact ⟨b0, bt, rfl⟩
          obtain ⟨m, hm⟩ : ∃ m, n - 55 = m + 1 := ⟨n - 56, by omega⟩
          have htk : b.take (n - 55) = b0 :: bt.take m := by rw [hbb, hm]; rfl
          have hne : b0 ≠ 0 := by have := h2'.1; rw [hbb] at this; exact this
          have hs : strictR (b.take (n - 55)) = (bev (b.take (n - 55)), 0) := by rw [htk, strictR, if_neg hne]
          have hback := strict_back (d := b.take (n - 55)) (fun x hx => hb x (List.mem_of_mem_take hx)) (by rw [hs])
          rw [hs] at hback
          have hlen := congrArg List.length hback
          rw [List.length_take, numB, be_length, Nat.min_eq_left (by omega)] at hlen
          refine ⟨e1, ?_, hbig (.inl (by omega))⟩
          rw [← e2, e3]
          unfold hd
          rw [if_neg (by omega), ← hlen, List.cons_append]
          have e5 : be (bev (b.take (n - 55))) (n - 55) = b.take (n - 55) := by
            conv => rhs; rw [hback, numB]
            rw [← hlen]
          rw [e5, List.take_append_drop]
          congr 1
          omega
  · rename_i h55
    obtain ⟨e1, e2, e3, e4⟩ := cutF_back h
    refine ⟨e1, ?_, fun hl => ?_⟩
    · rw [e2, e3]
      unfold hd
      rw [if_pos (by omega), List.singleton_append]
      congr 1
      omega
    · rcases Nat.lt_or_ge 1 q.length with h1 | h1
      · exact .inl (by omega)
      · by_cases h0 : q.length = 1
        · right
          obtain ⟨x, hx⟩ : ∃ x, q = [x] := by
            match q, h0 with
            | [x], _ => exact ⟨x, rfl⟩
          have : ¬ b.getD 0 0 < 128 := fun h => e4 ⟨hl, by omega, h⟩
          rw [e2, hx] at this
          rw [hx]
          have this : ¬ x < 128 := this
          show 128 ≤ x
          omega
        · exact .inl h0

/-- What is cut off is a head as it is written. -/
theorem cutR_back {d q r : List Int} {l : Bool} (hb : bytesOk d) (h : cutR d = (l, q, r, 0)) : (l = false ∧ d = encT q ++ r) ∨ (l = true ∧ d = hd 192 q.length ++ (q ++ r)) := by
  cases d with
  | nil => cases h
  | cons c b =>
    have hc := hb c (by simp)
    have hb' : bytesOk b := fun x hx => hb x (by simp [hx])
    simp only [cutR] at h
    split at h
    · rename_i h1
      cases h
      refine .inl ⟨rfl, ?_⟩
      unfold encT
      rw [if_neg]
      · rfl
      · rintro (h2 | h2)
        · exact h2 rfl
        · have : (128 : Int) ≤ c := h2
          omega
    · split at h
      · rename_i h1 h2
        obtain ⟨e1, e2, e3⟩ := cutL_back hb' (by omega) h
        refine .inr ⟨e1, ?_⟩
        rw [← show kindH true = 192 from rfl, ← e2]
        congr 1
        show c = 192 + _
        omega
      · rename_i h1 h2
        obtain ⟨e1, e2, e3⟩ := cutL_back hb' (by omega) h
        refine .inl ⟨e1, ?_⟩
        unfold encT
        rw [if_pos (e3 rfl), List.append_assoc, ← show kindH false = 128 from rfl, ← e2]
        congr 1
        show c = 128 + _
        omega

theorem encT_pos (q : List Int) : 1 ≤ (encT q).length ∧ q.length ≤ (encT q).length ∧ 1 + q.length ≤ 2 * (encT q).length := by
  unfold encT
  have hp : ∀ n, 1 ≤ (hd 128 n).length := fun n => by unfold hd; split <;> simp
  split
  · have := hp q.length
    rw [List.length_append]; omega
  · have : q.length = 1 := by omega
    omega
theorem hd_pos (f : Int) (n : Nat) : 1 ≤ (hd f n).length := by unfold hd; split <;> simp

/-- What is known of items that have been read. -/
structure Read (w : Nat) (p : List Int) (its : List It) : Prop where
  e : encs its = p
  s : strips its = its
  b : byts its
  o : okSs its = true
  d : depths its + w ≤ 1024
  n : bulks its ≤ 2 * p.length

theorem dec_read : ∀ (n w : Nat) (p : List Int) (its : List It), p.length ≤ n → bytesOk p → w ≤ 1024 → dec w p = .ok its → Read w p its := by
  intro n
  induction n with
  | zero =>
    intro w p its hn hb hw h
    have : p = [] := List.eq_nil_of_length_eq_zero (by omega)
    subst this
    cases h
    exact ⟨rfl, rfl, trivial, rfl, by simp only [depths]; omega, Nat.zero_le _⟩
  | succ n ih =>
    intro w p its hn hb hw h
    by_cases hp : p = []
    · subst hp
      cases h
      exact ⟨rfl, rfl, trivial, rfl, by simp only [depths]; omega, Nat.zero_le _⟩
    rw [dec_cons w hp] at h
    obtain ⟨l, q, r, e, hc⟩ : ∃ l q r e, cutR p = (l, q, r, e) := ⟨_, _, _, _, rfl⟩
    rw [hc] at h
    simp only at h
    split at h
    · rename_i he
      subst he
      have hlen := cutR_len (d := p) (by rw [hc])
      rw [hc] at hlen
      simp only at hlen
      have hsub := cutR_sub (P := fun x : Int => 0 ≤ x ∧ x < 256) hb
      rw [hc] at hsub
      have hqb : bytesOk q := hsub.1
      have hrb : bytesOk r := hsub.2
      rcases cutR_back hb hc with ⟨hl, hd'⟩ | ⟨hl, hd'⟩
      · subst hl
        rw [if_neg (by decide)] at h
        split at h
        · cases h
        · rename_i xs hx
          cases h
          obtain ⟨h1, h2, h3, h4, h5, h6⟩ := ih w r xs (by omega) hrb hw hx
          have hpl : p.length = (encT q).length + r.length := by conv => lhs; rw [hd', List.length_append]
          have := encT_pos q
          refine ⟨?_, ?_, ⟨⟨hqb, trivial⟩, h3⟩, ?_, ?_, ?_⟩
          · rw [encs, h1, hd']; rfl
          · rw [strips, h2]; rfl
          · rw [okSs, h4]; rfl
          · simp only [depths, It.txt, dep]; omega
          · simp only [bulks, It.txt, It.bulk]; omega
      · subst hl
        rw [if_pos rfl] at h
        split at h
        · cases h
        · rename_i hw1
          split at h
          · cases h
          · rename_i its' hi
            split at h
            · cases h
            · rename_i xs hx
              cases h
              obtain ⟨h1, h2, h3, h4, h5, h6⟩ := ih w r xs (by omega) hrb hw hx
              have hq1 := hlen.2.2 rfl
              obtain ⟨g1, g2, g3, g4, g5, g6⟩ := ih (w + 1) q its' (by omega) hqb (by omega) hi
              have hpl : p.length = (hd 192 q.length).length + (q.length + r.length) := by conv => lhs; rw [hd', List.length_append, List.length_append]
              have := hd_pos 192 q.length
              refine ⟨?_, ?_, ⟨⟨fun _ h => (by cases h), g3⟩, h3⟩, ?_, ?_, ?_⟩
              · rw [encs, h1, It.lst, enc, g1, hd', List.append_assoc]
              · rw [strips, h2, strip_lst, g2]
              · rw [okSs, h4, It.lst, okS, g4]; rfl
              · simp only [depths, It.lst, dep]; omega
              · simp only [bulks, It.lst, It.bulk, List.length_nil]; omega
    · cases h

/-- What is known of an item that has been read. -/
theorem decR_read {d : List Int} {it : It} (hb : bytesOk d) (h : decR d = .ok it) : Read 0 d [it] := by
  unfold decR at h
  split at h
  · cases h
  · unfold cItem at h
    obtain ⟨l, q, r, e, hc⟩ : ∃ l q r e, cutR d = (l, q, r, e) := ⟨_, _, _, _, rfl⟩
    rw [hc] at h
    simp only at h
    split at h
    · rename_i he
      subst he
      have hne : d ≠ [] := fun e => by rw [e] at hc; cases hc
      refine dec_read d.length 0 d [it] (Nat.le_refl _) hb (by omega) ?_
      rw [dec_cons 0 hne, hc]
      simp only [if_true]
      split at h
      · rename_i hl
        subst hl
        rw [if_pos rfl, if_neg (by omega)]
        rw [if_neg (by decide)] at h
        unfold cWithin at h
        split at h
        · cases h
        · rename_i its hi
          have hi : dec (0 + 1) q = .ok its := hi
          rw [hi]
          simp only [cEnd, List.nil_append] at h
          split at h
          · rename_i hr
            cases h
            subst hr
            rfl
          · cases h
      · rename_i hl
        rw [if_neg hl]
        simp only [cEnd] at h
        split at h
        · rename_i hr
          cases h
          subst hr
          rfl
        · cases h
    · cases h

/-- What is written is read back. -/
theorem dec_back : ∀ (n w : Nat) (its : List It), bulks its ≤ n → strips its = its → byts its → okSs its = true → depths its + w ≤ 1024 → (encs its).length < 18446744073709551616 → dec w (encs its) = .ok its := by
  intro n
  induction n with
  | zero =>
    intro w its hn
    cases its with
    | nil => intros; rfl
    | cons x xs => have := bulk_pos x; simp only [bulks] at hn; omega
  | succ n ih =>
    intro w its hn hs hb ho hd' hl
    cases its with
    | nil => rfl
    | cons x xs =>
      obtain ⟨l, d, sd, its', ss⟩ := x
      simp only [bulks, It.bulk] at hn
      simp only [strips, List.cons.injEq, It.strip, It.mk.injEq] at hs
      obtain ⟨⟨_, _, hsd, hsi, hss⟩, hsx⟩ := hs
      obtain ⟨⟨hbd, hbi⟩, hbx⟩ := hb
      simp only [okSs, Bool.and_eq_true] at ho
      obtain ⟨hox, hoxs⟩ := ho
      simp only [depths] at hd'
      subst hsd; subst hss
      cases l with
      | false =>
        simp only [okS, decide_eq_true_eq] at hox
        have : its' = [] := List.eq_nil_of_length_eq_zero hox
        subst this
        have he : encs (It.mk false d [] [] [] :: xs) = encT d ++ encs xs := rfl
        rw [he] at hl ⊢
        rw [List.length_append] at hl
        have hdl := encT_pos d
        have hne : encT d ++ encs xs ≠ [] := fun e => by have := congrArg List.length e; rw [List.length_append, List.length_nil] at this; omega
        rw [dec_cons w hne, cut_encT d (encs xs) (by omega) hbd]
        simp only [if_true]
        rw [if_neg (by decide), ih w xs (by omega) hsx hbx hoxs (by omega) (by omega)]
        rfl
      | true =>
        simp only [okS, Bool.and_eq_true, decide_eq_true_eq] at hox
        have : d = [] := List.eq_nil_of_length_eq_zero hox.1
        subst this
        simp only [dep] at hd'
        have he : encs (It.mk true [] [] its' [] :: xs) = hd 192 (encs its').length ++ (encs its' ++ encs xs) := by rw [encs, enc, List.append_assoc]
        rw [he] at hl ⊢
        rw [List.length_append, List.length_append] at hl
        have := hd_pos 192 (encs its').length
        have hne : hd 192 (encs its').length ++ (encs its' ++ encs xs) ≠ [] := fun e => by have := congrArg List.length e; rw [List.length_append, List.length_nil] at this; omega
        rw [dec_cons w hne, cut_encL (encs its') (encs xs) (by omega)]
        simp only [if_true]
        rw [if_neg (by omega), ih (w + 1) its' (by omega) hsi hbi hox.2 (by omega) (by omega), ih w xs (by omega) hsx hbx hoxs (by omega) (by omega)]
        rfl

theorem decR_back {it : It} (hs : it.strip = it) (hb : it.byt) (ho : okS it = true) (hd' : dep it ≤ 1024) (hl : (enc it).length ≤ 16777216) : decR (enc it) = .ok it := by
  have hall := dec_back (bulks [it]) 0 [it] (Nat.le_refl _) (by rw [strips, hs]; rfl) ⟨hb, trivial⟩ (by rw [okSs, ho]; rfl) (by simp only [depths]; omega) (by simp only [encs, List.append_nil]; omega)
  simp only [encs, List.append_nil] at hall
  unfold decR
  rw [if_neg (by omega)]
  have hne : enc it ≠ [] := fun e => by rw [e, dec_nil] at hall; cases hall
  rw [dec_cons 0 hne] at hall
  unfold cItem
  split at hall
  · rename_i he
    rw [if_pos he]
    split at hall
    · rename_i hlist
      rw [if_pos hlist]
      rw [if_neg (by omega)] at hall
      rw [if_neg (show ¬ ([] : List Opn).length = 1024 by simp)]
      unfold cWithin
      split at hall
      · cases hall
      · rename_i its hi
        have hi : dec (([] : List Opn).length + 1) (cutR (enc it)).2.1 = .ok its := hi
        rw [hi]
        split at hall
        · cases hall
        · rename_i xs hx
          simp only [Except.ok.injEq, List.cons.injEq] at hall
          obtain ⟨h1, h2⟩ := hall
          subst h2
          have hr : (cutR (enc it)).2.2.1 = [] := by
            cases hr : (cutR (enc it)).2.2.1 with
            | nil => rfl
            | cons c b =>
              rw [hr] at hx
              rw [dec_cons 0 (by simp)] at hx
              split at hx
              · split at hx
                · split at hx
                  · cases hx
                  · split at hx
                    · cases hx
                    · split at hx <;> cases hx
                · split at hx <;> cases hx
              · cases hx
          simp only [cEnd, hr, if_true, List.nil_append, h1]
    · rename_i hlist
      rw [if_neg hlist]
      split at hall
      · cases hall
      · rename_i xs hx
        simp only [Except.ok.injEq, List.cons.injEq] at hall
        obtain ⟨h1, h2⟩ := hall
        subst h2
        have hr : (cutR (enc it)).2.2.1 = [] := by
          cases hr : (cutR (enc it)).2.2.1 with
          | nil => rfl
          | cons c b =>
            rw [hr] at hx
            rw [dec_cons 0 (by simp)] at hx
            split at hx
            · split at hx
              · split at hx
                · cases hx
                · split at hx
                  · cases hx
                  · split at hx <;> cases hx
              · split at hx <;> cases hx
            · cases hx
        simp only [cEnd, hr, if_true, h1]
  · cases hall
end Go.Eng
