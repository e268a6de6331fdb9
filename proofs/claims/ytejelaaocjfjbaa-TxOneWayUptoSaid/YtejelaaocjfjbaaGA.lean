/-
  tx.kind, wanted; rlp.GetText. Condition: bytes in their range.
  What tx.decode reads, as plain data. No program in sight.
-/
import Derived.Test.YtejelaaocjfjbaaF7
import Derived.Test.YtejelaaocjfjbaaRE
namespace Go.Eng
open Go Go.Proofs
set_option maxRecDepth 100000
set_option maxHeartbeats 4000000
set_option linter.unusedVariables false

/-- The type that the first byte tells, the bytes of the list, the error. -/
def kindR : List Int → Int × List Int × Int
  | [] => (0, [], 0)
  | c :: b => if 192 ≤ c then (0, c :: b, 0) else if 128 ≤ c then (0, [], 157) else if c = 0 ∨ 5 ≤ c then (0, [], 150) else (c, b, 0)

theorem kind15_sound : Sound Try.prog 24 fun args k => ∃ (c : Int) (b : List Int) (sd : List (List PS)), args = [.s (.sl ((c :: b).map b8) sd)] ∧ bytesOk (c :: b) ∧ b.length ≤ 2 ^ 40 ∧ (∀ z ∈ sd, rlen z = 1) ∧
    ∀ s, (∀ z ∈ s, rlen z = 1) → k [.s (.v (.int .i64 (kindR (c :: b)).1)), .s (.sl ((kindR (c :: b)).2.1.map b8) s), .s (.v (.int .i64 (kindR (c :: b)).2.2))] := by
  refine Sound.of_body tt_ok ent_ok Try.func24 rfl ?_
  rintro ar har Γ hΓ args k ⟨c, b, sd, hargs, hok, hl, hsd, hk⟩
  obtain ⟨D, hD⟩ : ∃ D, D = (c :: b).map b8 := ⟨_, rfl⟩
  have hcr := hok c (by simp)
  have hDn : D.length = b.length + 1 := by rw [hD, List.length_map, List.length_cons]
  have hDy : ∀ z ∈ D, rlen z = 1 := by rw [hD]; exact b8_all _
  have rb : D[(0 : Int).toNat]? = some [.c (.v (.int .u8 c))] := by rw [hD]; rfl
  have hb0 : (0 : Int) ≤ 0 := Int.le_refl 0
  have e1 : ar.frm D 1 = b.map b8 := by rw [frmIs har, hD]; rfl
  obtain ⟨C, hC⟩ : ∃ C, ar.cv .i64 c = C := ⟨_, rfl⟩
  have hCc : C = c := by rw [← hC, cvI64 har (by omega)]
  rw [← hD] at hargs
  simp only [kindR] at hk
  have s2 : (0 : Int) ≤ 1 ∧ (1 : Int) ≤ (D.length : Int) ∧ (∀ z ∈ D, rlen z = 1) ∧ ∀ z ∈ sd, rlen z = 1 := ⟨by omega, by omega, hDy, hsd⟩
  conv at hC => lhs; cbv
  subst hargs
  conv => cbv
  refine ⟨_, hb0, rb, rfl, ?_⟩
  conv => cbv
  rw [hC]
  refine ⟨fun h => ?_, fun h => ?_⟩
  · have g := cGe har (a := C) (b := 192) h
    rw [if_pos (by omega)] at hk
    have hk := hk sd hsd
    rw [← hD] at hk
    conv => cbv
    exact hk
  have g := cNge har (a := C) (b := 192) h
  rw [if_neg (by omega)] at hk
  conv => cbv
  refine ⟨fun h => ?_, fun h => ?_⟩
  · have g2 := cGe har (a := C) (b := 128) h
    rw [if_pos (by omega)] at hk
    have hk := hk [] (by simp)
    conv => cbv
    exact hk
  have g2 := cNge har (a := C) (b := 128) h
  rw [if_neg (by omega)] at hk
  conv => cbv
  have fail : (c = 0 ∨ 5 ≤ c) → k [.s (.v (.int .i64 0)), .s (.sl [] []), .s (.v (.int .i64 150))] := fun h => by
    rw [if_pos h] at hk; exact hk [] (by simp)
  refine ⟨fun h => ?_, fun h => ?_⟩
  rotate_left
  · have g3 := cEq har (a := C) (b := 0) h
    have hk := fail (.inl (by omega))
    conv => cbv
    exact hk
  have g3 := cNeq har (a := C) (b := 0) h
  conv => cbv
  refine ⟨fun h => ?_, fun h => ?_⟩
  · have g4 := cGe har (a := C) (b := 5) h
    have hk := fail (.inr (by omega))
    conv => cbv
    exact hk
  have g4 := cNge har (a := C) (b := 5) h
  rw [if_neg (by omega)] at hk
  have hk := hk sd hsd
  rw [← e1, ← hCc] at hk
  conv => cbv
  exact ⟨by rw [har]; kernel_rfl, fun _ => s2, hk⟩

theorem wanted_sound : Sound Try.prog 26 fun args k => ∃ (it : It) (l : Bool), args = [.a it.row, .s (.v (.bool l))] ∧ k [.s (.v (.int .i64 (if it.l = l then 0 else 75)))] := by
  refine Sound.of_body tt_ok ent_ok Try.func26 rfl ?_
  rintro ar har Γ hΓ args k ⟨⟨a, d, sd, its, ss⟩, l, hargs, hk⟩
  obtain ⟨D, hD⟩ : ∃ D, D = d.map b8 := ⟨_, rfl⟩
  obtain ⟨I, hI⟩ : ∃ I, I = rowsOf its := ⟨_, rfl⟩
  have hrow : (It.mk a d sd its ss).row = [.c (.v (.bool a)), .c (.sl D sd), .c (.sl I ss)] := by rw [hD, hI]; rfl
  have hk : k [.s (.v (.int .i64 (if a = l then 0 else 75)))] := hk
  have hb : ar.bb .neq a l = !(a == l) := bbnIs har a l
  rw [hrow] at hargs
  clear hrow hD hI
  subst hargs
  conv => cbv
  refine ⟨fun h => ?_, fun h => ?_⟩
  · have g : a ≠ l := fun e => by
      have h2 : ar.bb .neq a l = true := h
      rw [hb, e] at h2; simp at h2
    rw [if_neg g] at hk
    conv => cbv
    exact hk
  · have g : a = l := by
      have h2 : ar.bb .neq a l = false := h
      rw [hb] at h2; simpa using h2
    rw [if_pos g] at hk
    conv => cbv
    exact hk

def It.getText (it : It) : List Int × Int := if it.ke false = 0 then (it.d, 0) else ([], it.ke false)
theorem getText_sound : Sound Try.prog 43 fun args k => ∃ (it : It), args = [.a it.row] ∧ it.bulk ≤ 2 ^ 40 ∧ k [.s (.sl (it.getText.1.map b8) []), .s (.v (.int .i64 it.getText.2))] := by
  refine Sound.of_body tt_ok ent_ok Try.func43 rfl ?_
  rintro ar har Γ hΓ args k ⟨⟨l, d, sd, its, ss⟩, hargs, hb, hk⟩
  obtain ⟨e, he⟩ : ∃ e, e = (It.mk l d sd its ss).ke false := ⟨_, rfl⟩
  obtain ⟨D, hD⟩ : ∃ D, D = d.map b8 := ⟨_, rfl⟩
  obtain ⟨I, hI⟩ : ∃ I, I = rowsOf its := ⟨_, rfl⟩
  have hrow : (It.mk l d sd its ss).row = [.c (.v (.bool l)), .c (.sl D sd), .c (.sl I ss)] := by rw [hD, hI]; rfl
  have hd : d.length ≤ 2 ^ 40 := by simp only [It.bulk] at hb; omega
  have hg : (It.mk l d sd its ss).getText = if e = 0 then (d, 0) else ([], e) := by rw [he]; rfl
  have callK : ∀ (Γ : Ctx) (d' : Nat) (k : List PR → Prop) (R : Prop), Γ = ctx Try.prog d' → k [.s (.v (.int .i64 e))] → Γ.g 66 [.a [.c (.v (.bool l)), .c (.sl D sd), .c (.sl I ss)], .s (.v (.bool false))] k ∨ R := fun Γ d' k R hΓ hk => call_by hΓ kind_sound ⟨.mk l d sd its ss, false, by rw [hrow], by rw [he] at hk; exact hk⟩
  have callC : ∀ (Γ : Ctx) (d' : Nat) (k : List PR → Prop) (R : Prop), Γ = ctx Try.prog d' → k [.s (.sl D [])] → Γ.g 63 [.s (.sl D sd)] k ∨ R := fun Γ d' k R hΓ hk => call_by hΓ clone_sound ⟨d, sd, by rw [hD], hd, by rw [← hD]; exact hk⟩
  rw [hg] at hk
  rw [hrow] at hargs
  clear hg he
  subst hargs
  conv => cbv
  refine callK _ _ _ _ hΓ ?_
  conv => cbv
  refine ⟨fun h => ?_, fun h => ?_⟩
  · have g := cNe har (a := e) (b := 0) h
    rw [if_neg g] at hk
    conv => cbv
    exact hk
  · have g := cNne har (a := e) (b := 0) h
    rw [if_pos g] at hk
    have hk : k [.s (.sl D []), .s (.v (.int .i64 0))] := by rw [hD]; exact hk
    conv => cbv
    refine callC _ _ _ _ hΓ ?_
    conv => cbv
    exact hk
end Go.Eng
namespace Go.Eng
open Go Go.Proofs
set_option linter.unusedVariables false

def setNum (u : Tx) (f : Int) (n : Nat) : Tx :=
  if f = 2 then { u with pr := n } else if f = 3 then { u with ti := n } else if f = 4 then { u with ca := n } else if f = 7 then { u with va := n } else if f = 10 then { u with bc := n }
  else if f = 13 then { u with v := n } else if f = 14 then { u with r := n } else { u with s := n }
def onE {α : Type} (e : Int) (x : α) : Except Int α := if e = 0 then .ok x else .error e
def recvR (u : Tx) (x : It) : Except Int Tx :=
  if x.l = false then (if x.d.length = 0 then .ok { u with cr := true } else if x.d.length = 20 then .ok { u with to := x.d } else .error 77) else .error 75
/-- The error of the first that is no text of 32 bytes. -/
def blobE : List It → Int
  | [] => 0
  | y :: l => if (y.getFixed 32).2 = 0 then blobE l else (y.getFixed 32).2
def blobL (l : List It) : List (List Int) := l.map fun y => (y.getFixed 32).1
def blobR (u : Tx) (x : It) : Except Int Tx :=
  if x.l = true then onE (blobE x.its) { u with bl := blobL x.its, sbl := [] } else .error 75
/-- A field is read. -/
def readF (u : Tx) (f : Int) (x : It) : Except Int Tx :=
  if f = 0 then onE (x.num 8).2 { u with ch := (x.num 8).1 } else if f = 1 then onE (x.num 8).2 { u with no := (x.num 8).1 } else if f = 5 then onE (x.num 8).2 { u with ga := (x.num 8).1 }
  else if f = 6 then recvR u x else if f = 8 then onE x.getText.2 { u with d := x.getText.1, sd := [] }
  else if f = 9 then (match parseOf x with | some es => .ok { u with ac := es, sac := [] } | none => .error 140)
  else if f = 11 then blobR u x
  else if f = 12 then (match parseAOf x with | some us => .ok { u with au := us, sau := [] } | none => .error 141)
  else onE (x.num 32).2 (setNum u f (x.num 32).1)
def decF (u : Tx) : List Int → List It → Except Int Tx
  | f :: fs, x :: xs => match readF u f x with
    | .error e => .error e
    | .ok u' => decF u' fs xs
  | _, _ => .ok u
def zeroTx (ty : Int) : Tx := ⟨ty, 0, 0, 0, 0, 0, 0, false, z20s, 0, [], [], [], [], 0, [], [], [], [], 0, 0, 0⟩
def finTx (u : Tx) : Except Int Tx := onE (encR u).2 u
def endTx (u : Tx) : Except Int Tx := if u.ty = 0 then (if chE u.v = 0 then finTx { u with ch := chC u.v } else .error (chE u.v)) else finTx u
def fieldsTx (ty : Int) (it : It) : Except Int Tx :=
  if it.l = true then (if it.its.length = (txFs ty).length then (match decF (zeroTx ty) (txFs ty) it.its with | .error e => .error e | .ok u => endTx u) else .error 151) else .error 75
/-- The transaction that bytes are. -/
def decTx (d : List Int) : Except Int Tx :=
  if (kindR d).2.2 = 0 then (match decR (kindR d).2.1 with | .error e => .error e | .ok it => fieldsTx (kindR d).1 it) else .error (kindR d).2.2

theorem onE_ok {α : Type} {e : Int} {x y : α} (h : onE e x = .ok y) : e = 0 ∧ x = y := by
  unfold onE at h
  split at h
  · rename_i h0; cases h; exact ⟨h0, rfl⟩
  · cases h

theorem blobE_zero : ∀ {l : List It}, blobE l = 0 → ∀ y ∈ l, (y.getFixed 32).2 = 0
  | [], _, y, hy => by cases hy
  | x :: l, h, y, hy => by
    unfold blobE at h
    split at h
    · rename_i h0
      rcases List.mem_cons.1 hy with rfl | hy
      · exact h0
      · exact blobE_zero h y hy
    · rename_i h0; exact absurd h h0
theorem blobE_append (a : List It) (y : It) : blobE a = 0 → blobE (a ++ [y]) = (y.getFixed 32).2 := by
  induction a with
  | nil => intro _; simp only [List.nil_append, blobE]; split <;> simp_all
  | cons x a ih =>
    intro h
    have hx := blobE_zero h x (by simp)
    have ha : blobE a = 0 := by unfold blobE at h; rw [if_pos hx] at h; exact h
    simp only [List.cons_append, blobE]
    rw [if_pos hx]
    exact ih ha
theorem blobE_first {a b : List It} {y : It} (h : blobE a = 0) (hy : (y.getFixed 32).2 ≠ 0) : blobE (a ++ y :: b) = (y.getFixed 32).2 := by
  induction a with
  | nil => simp only [List.nil_append, blobE]; rw [if_neg hy]
  | cons x a ih =>
    have hx := blobE_zero h x (by simp)
    have ha : blobE a = 0 := by unfold blobE at h; rw [if_pos hx] at h; exact h
    simp only [List.cons_append, blobE]
    rw [if_pos hx]
    exact ih ha

/-! ### What is read keeps the ranges -/
theorem setNum_ok {u : Tx} (h : u.ok) {n : Nat} (hn : n < M256) (f : Int) : (setNum u f n).ok := by
  unfold setNum
  obtain ⟨h1, h2, h3, h4, h5, h6, h7, h8, h9, h10, h11, h12, h13, h14, h15, h16, h17, h18⟩ := h
  (repeat' split) <;> exact ⟨by assumption, by assumption, by assumption, by first | exact hn | assumption, by first | exact hn | assumption, by first | exact hn | assumption, by assumption, by assumption, by first | exact hn | assumption, by assumption, by first | exact hn | assumption, by assumption, by assumption, by first | exact hn | assumption, by first | exact hn | assumption, by first | exact hn | assumption, by assumption, by assumption⟩

theorem readF_ok {u u' : Tx} {f : Int} {x : It} (h : u.ok) (hb : x.byt) (hr : readF u f x = .ok u') : u'.ok := by
  have n8 : (x.num 8).1 < 18446744073709551616 := num_lt hb
  have n32 : (x.num 32).1 < M256 := num_lt hb
  have hbd : bytesOk x.d := by cases x; exact hb.1
  unfold readF at hr
  split at hr
  · obtain ⟨_, rfl⟩ := onE_ok hr
    exact { h with ch := n8 }
  · split at hr
    · obtain ⟨_, rfl⟩ := onE_ok hr
      exact { h with no := n8 }
    · split at hr
      · obtain ⟨_, rfl⟩ := onE_ok hr
        exact { h with ga := n8 }
      · split at hr
        · unfold recvR at hr
          split at hr
          · split at hr
            · cases hr; exact { h with }
            · split at hr
              · rename_i h20; cases hr; exact { h with to := h20, tob := hbd }
              · cases hr
          · cases hr
        · split at hr
          · obtain ⟨h0, rfl⟩ := onE_ok hr
            refine { h with db := ?_ }
            unfold It.getText at h0 ⊢
            split
            · exact hbd
            · intro b hb; cases hb
          · split at hr
            · split at hr
              · rename_i es hes
                cases hr
                refine { h with ac := fun e he => ?_ }
                have h2 := (parse_strip hes).2 e he
                have h3 := (parse_strip hes).1
                have h4 : (It.lst (esIts es)).byt := by rw [← h3]; exact byt_strip x hb
                have h5 : e.it.byt := byts_mem h4.2 (List.mem_map.2 ⟨e, he, rfl⟩)
                obtain ⟨_, ha, hk, _⟩ := h5
                refine ⟨h2.1, ha.1, fun w hw => ⟨h2.2 w hw, ?_⟩⟩
                exact (byts_mem hk.2 (List.mem_map.2 ⟨w, hw, rfl⟩)).1
              · cases hr
            · split at hr
              · unfold blobR at hr
                split at hr
                · obtain ⟨h0, rfl⟩ := onE_ok hr
                  refine { h with bl := fun w hw => ?_ }
                  obtain ⟨y, hy, rfl⟩ := List.mem_map.1 hw
                  have h1 := blobE_zero h0 y hy
                  have hby : byts x.its := by cases x; exact hb.2
                  exact ⟨getFixed_len h1, getFixed_byt (byts_mem hby hy) h1⟩
                · cases hr
              · split at hr
                · split at hr
                  · rename_i us hus
                    cases hr
                    exact { h with au := (parseA_strip hb hus).2.1 }
                  · cases hr
                · obtain ⟨_, rfl⟩ := onE_ok hr
                  exact setNum_ok h n32 f

/-- The lists' sizes. -/
structure Tx.lim (t : Tx) (n : Nat) : Prop where
  d : t.d.length ≤ n
  ac : bulks (esIts t.ac) ≤ n
  bl : 33 * t.bl.length ≤ n
  au : 21 * t.au.length ≤ n
theorem Tx.lim.mono {t : Tx} {n m : Nat} (h : t.lim n) (hm : n ≤ m) : t.lim m := ⟨Nat.le_trans h.d hm, Nat.le_trans h.ac hm, Nat.le_trans h.bl hm, Nat.le_trans h.au hm⟩
theorem Tx.lim.fit {t : Tx} (h : t.lim (2 ^ 21)) : t.fit := ⟨by have := h.d; omega, by have := h.ac; omega, by have := h.bl; omega, by have := h.au; omega⟩
theorem us_least : ∀ {us : List Au}, (∀ u ∈ us, u.a.length = 20) → 21 * us.length ≤ bulks (usIts us)
  | [], _ => Nat.zero_le _
  | u :: us, h => by
    have h1 := us_least (us := us) fun x hx => h x (by simp [hx])
    have h2 := h u (by simp)
    show _ ≤ u.it.bulk + bulks (usIts us)
    have h3 : 21 ≤ u.it.bulk := by
      simp only [Au.it, It.lst, It.bulk, Au.parts, bulks, numIt, It.txt, h2, List.length_nil]; omega
    rw [List.length_cons]; omega

theorem setNum_lim {u : Tx} {m : Nat} (h : u.lim m) (f : Int) (n : Nat) : (setNum u f n).lim m := by
  unfold setNum
  (repeat' split) <;> exact ⟨h.d, h.ac, h.bl, h.au⟩

theorem readF_lim {u u' : Tx} {f : Int} {x : It} {n : Nat} (h : u.lim n) (hb : x.byt) (hx : x.bulk ≤ n) (hr : readF u f x = .ok u') : u'.lim n := by
  have hbu := strip_bulk x
  unfold readF at hr
  split at hr
  · obtain ⟨_, rfl⟩ := onE_ok hr; exact { h with }
  · split at hr
    · obtain ⟨_, rfl⟩ := onE_ok hr; exact { h with }
    · split at hr
      · obtain ⟨_, rfl⟩ := onE_ok hr; exact { h with }
      · split at hr
        · unfold recvR at hr
          split at hr
          · split at hr
            · cases hr; exact { h with }
            · split at hr
              · cases hr; exact { h with }
              · cases hr
          · cases hr
        · split at hr
          · obtain ⟨h0, rfl⟩ := onE_ok hr
            refine { h with d := ?_ }
            show x.getText.1.length ≤ n
            unfold It.getText
            split
            · cases x; simp only [It.bulk] at hx; show List.length _ ≤ n; simp only [It.d]; omega
            · exact Nat.zero_le _
          · split at hr
            · split at hr
              · rename_i es hes
                cases hr
                have h3 := (parse_strip hes).1
                have h4 : (It.lst (esIts es)).bulk = x.bulk := by rw [← h3, hbu]
                simp only [It.lst, It.bulk, List.length_nil] at h4
                refine { h with ac := ?_ }
                show bulks (esIts es) ≤ n
                omega
              · cases hr
            · split at hr
              · unfold blobR at hr
                split at hr
                · obtain ⟨h0, rfl⟩ := onE_ok hr
                  refine { h with bl := ?_ }
                  have key : ∀ l : List It, (∀ y ∈ l, (y.getFixed 32).2 = 0) → 33 * l.length ≤ bulks l := by
                    intro l
                    induction l with
                    | nil => intro _; exact Nat.zero_le _
                    | cons y l ih =>
                      intro hl
                      have h1 := getFixed_strip (hl y (by simp))
                      have h2 := getFixed_len (hl y (by simp))
                      have h3 := strip_bulk y
                      rw [h1] at h3
                      simp only [It.txt, It.bulk, bulks, h2] at h3
                      have := ih fun z hz => hl z (by simp [hz])
                      simp only [List.length_cons, bulks]; omega
                  have h5 := key x.its (blobE_zero h0)
                  show 33 * (blobL x.its).length ≤ n
                  rw [blobL, List.length_map]
                  cases x; simp only [It.bulk] at hx; simp only [It.its] at h5 ⊢; omega
                · cases hr
              · split at hr
                · split at hr
                  · rename_i us hus
                    cases hr
                    obtain ⟨h3, h4, _⟩ := parseA_strip hb hus
                    have h5 := us_least (us := us) fun u hu => (h4 u hu).1.2.1
                    have h6 : (It.lst (usIts us)).bulk = x.bulk := by rw [← h3, hbu]
                    simp only [It.lst, It.bulk, List.length_nil] at h6
                    refine { h with au := ?_ }
                    show 21 * us.length ≤ n
                    omega
                  · cases hr
                · obtain ⟨_, rfl⟩ := onE_ok hr
                  exact setNum_lim h f _
theorem setNum_ty (u : Tx) (f : Int) (n : Nat) : (setNum u f n).ty = u.ty := by unfold setNum; (repeat' split) <;> rfl
theorem readF_ty {u u' : Tx} {f : Int} {x : It} (hr : readF u f x = .ok u') : u'.ty = u.ty := by
  unfold readF at hr
  split at hr
  · obtain ⟨_, rfl⟩ := onE_ok hr; rfl
  · split at hr
    · obtain ⟨_, rfl⟩ := onE_ok hr; rfl
    · split at hr
      · obtain ⟨_, rfl⟩ := onE_ok hr; rfl
      · split at hr
        · unfold recvR at hr
          split at hr
          · split at hr
            · cases hr; rfl
            · split at hr
              · cases hr; rfl
              · cases hr
          · cases hr
        · split at hr
          · obtain ⟨h0, rfl⟩ := onE_ok hr; rfl
          · split at hr
            · split at hr
              · cases hr; rfl
              · cases hr
            · split at hr
              · unfold blobR at hr
                split at hr
                · obtain ⟨h0, rfl⟩ := onE_ok hr; rfl
                · cases hr
              · split at hr
                · split at hr
                  · cases hr; rfl
                  · cases hr
                · obtain ⟨_, rfl⟩ := onE_ok hr
                  exact setNum_ty u f _
theorem readF_bl {u u' : Tx} {f : Int} {x : It} (hf : f ≠ 11) (hr : readF u f x = .ok u') : u'.bl = u.bl := by
  unfold readF at hr
  split at hr
  · obtain ⟨_, rfl⟩ := onE_ok hr; rfl
  · split at hr
    · obtain ⟨_, rfl⟩ := onE_ok hr; rfl
    · split at hr
      · obtain ⟨_, rfl⟩ := onE_ok hr; rfl
      · split at hr
        · unfold recvR at hr
          split at hr
          · split at hr
            · cases hr; rfl
            · split at hr
              · cases hr; rfl
              · cases hr
          · cases hr
        · split at hr
          · obtain ⟨h0, rfl⟩ := onE_ok hr; rfl
          · split at hr
            · split at hr
              · cases hr; rfl
              · cases hr
            · split at hr
              · split at hr
                · cases hr; rfl
                · cases hr
              · obtain ⟨_, rfl⟩ := onE_ok hr
                unfold setNum; (repeat' split) <;> rfl
theorem rF0 (u : Tx) (x : It) : readF u 0 x = onE (x.num 8).2 { u with ch := (x.num 8).1 } := by unfold readF; rw [if_pos rfl]
theorem rF1 (u : Tx) (x : It) : readF u 1 x = onE (x.num 8).2 { u with no := (x.num 8).1 } := by unfold readF; rw [if_neg (by decide), if_pos rfl]
theorem rF5 (u : Tx) (x : It) : readF u 5 x = onE (x.num 8).2 { u with ga := (x.num 8).1 } := by unfold readF; rw [if_neg (by decide), if_neg (by decide), if_pos rfl]
theorem rF6 (u : Tx) (x : It) : readF u 6 x = recvR u x := by unfold readF; rw [if_neg (by decide), if_neg (by decide), if_neg (by decide), if_pos rfl]
theorem rF8 (u : Tx) (x : It) : readF u 8 x = onE x.getText.2 { u with d := x.getText.1, sd := [] } := by unfold readF; rw [if_neg (by decide), if_neg (by decide), if_neg (by decide), if_neg (by decide), if_pos rfl]
theorem rF9 (u : Tx) (x : It) : readF u 9 x = match parseOf x with | some es => .ok { u with ac := es, sac := [] } | none => .error 140 := by unfold readF; rw [if_neg (by decide), if_neg (by decide), if_neg (by decide), if_neg (by decide), if_neg (by decide), if_pos rfl]
theorem rF11 (u : Tx) (x : It) : readF u 11 x = blobR u x := by unfold readF; rw [if_neg (by decide), if_neg (by decide), if_neg (by decide), if_neg (by decide), if_neg (by decide), if_neg (by decide), if_pos rfl]
theorem rF12 (u : Tx) (x : It) : readF u 12 x = match parseAOf x with | some us => .ok { u with au := us, sau := [] } | none => .error 141 := by unfold readF; rw [if_neg (by decide), if_neg (by decide), if_neg (by decide), if_neg (by decide), if_neg (by decide), if_neg (by decide), if_neg (by decide), if_pos rfl]
theorem rFn {f : Int} (h0 : f ≠ 0) (h1 : f ≠ 1) (h5 : f ≠ 5) (h6 : f ≠ 6) (h8 : f ≠ 8) (h9 : f ≠ 9) (h11 : f ≠ 11) (h12 : f ≠ 12) (u : Tx) (x : It) : readF u f x = onE (x.num 32).2 (setNum u f (x.num 32).1) := by
  unfold readF; rw [if_neg h0, if_neg h1, if_neg h5, if_neg h6, if_neg h8, if_neg h9, if_neg h11, if_neg h12]
theorem onE_err {α : Type} {e : Int} (x : α) (h : e ≠ 0) : onE e x = .error e := if_neg h
theorem onE_fine {α : Type} {e : Int} (x : α) (h : e = 0) : onE e x = .ok x := if_pos h
theorem txFs_nodup {ty : Int} (h : 0 ≤ ty ∧ ty < 5) : (txFs ty).Nodup := by
  have h2 : ty = 0 ∨ ty = 1 ∨ ty = 2 ∨ ty = 3 ∨ ty = 4 := by omega
  rcases h2 with rfl | rfl | rfl | rfl | rfl <;> decide
theorem txFs_new {ty : Int} (h : 0 ≤ ty ∧ ty < 5) {p : Nat} {f : Int} (hf : (txFs ty)[p]? = some f) : f ∉ (txFs ty).take p := fun hm => by
  have h1 := txFs_nodup h
  rw [← List.take_append_drop p (txFs ty), List.nodup_append] at h1
  obtain ⟨hlt, e⟩ := List.getElem?_eq_some_iff.1 hf
  refine h1.2.2 f hm f ?_ rfl
  rw [← e, List.drop_eq_getElem_cons hlt]
  exact List.mem_cons_self ..
theorem decF_ty : ∀ {fs : List Int} {xs : List It} {u u' : Tx}, decF u fs xs = .ok u' → u'.ty = u.ty
  | [], _, _, _, h => by cases h; rfl
  | _ :: _, [], _, _, h => by cases h; rfl
  | f :: fs, x :: xs, u, u', h => by
    rw [decF] at h
    split at h
    · cases h
    · rename_i u1 h1
      rw [decF_ty h, readF_ty h1]
end Go.Eng
