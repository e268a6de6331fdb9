/-
  waybilllaw15.lives. Condition: at most 2^20.
  TxOneWay. Condition: at most 2^20 bytes, each in its range.
-/
import Derived.Test.YtejelaaocjfjbaaGC
namespace Go.Eng
open Go Go.Proofs
set_option maxRecDepth 100000
set_option maxHeartbeats 8000000
set_option linter.unusedVariables false

theorem simT_row (n : Nat) (N : Int) (hN : N = n) : (simT n).row = [.c (.v (.int .i64 0)), .c (.v (.int .u64 0)), .c (.v (.int .u64 N)), .r 4 [.int .u64 0, .int .u64 0, .int .u64 0, .int .u64 0], .r 4 [.int .u64 0, .int .u64 0, .int .u64 0, .int .u64 0], .r 4 [.int .u64 0, .int .u64 0, .int .u64 0, .int .u64 0], .c (.v (.int .u64 21000)), .c (.v (.bool false)), .r 20 [.int .u8 0, .int .u8 0, .int .u8 0, .int .u8 0, .int .u8 0, .int .u8 0, .int .u8 0, .int .u8 0, .int .u8 0, .int .u8 0, .int .u8 0, .int .u8 0, .int .u8 0, .int .u8 0, .int .u8 0, .int .u8 0, .int .u8 0, .int .u8 0, .int .u8 0, .int .u8 0], .r 4 [.int .u64 0, .int .u64 0, .int .u64 0, .int .u64 0], .c (.sl [] []), .c (.sl [] []), .r 4 [.int .u64 0, .int .u64 0, .int .u64 0, .int .u64 0], .c (.sl [] []), .c (.sl [] []), .r 4 [.int .u64 27, .int .u64 0, .int .u64 0, .int .u64 0], .r 4 [.int .u64 0, .int .u64 0, .int .u64 0, .int .u64 0], .r 4 [.int .u64 0, .int .u64 0, .int .u64 0, .int .u64 0]] := by
  show txRow 0 _ _ (w4 0) (w4 0) (w4 0) _ _ _ (w4 0) _ _ _ _ (w4 0) _ _ _ _ (w4 27) (w4 0) (w4 0) = _
  rw [w4_zero, show w4 27 = [.int .u64 27, .int .u64 0, .int .u64 0, .int .u64 0] from rfl, hN]; rfl

theorem hd_byt {f : Int} {k : Nat} (h : k ≤ 55) : bytesOk (hd f k) := fun x hx => by
  rw [hd, if_pos h, List.mem_singleton] at hx
  omega
theorem bytesOk_app {a b : List Int} (ha : bytesOk a) (hb : bytesOk b) : bytesOk (a ++ b) := fun x hx => by
  rcases List.mem_append.1 hx with h | h
  · exact ha x h
  · exact hb x h
theorem simR_byt : bytesOk simR := by unfold bytesOk simR; decide
theorem sim_bytes {n : Nat} (h : n ≤ 2 ^ 20) : bytesOk (enc (It.lst (simI n))) := by
  have h3 := numB_short h
  have he : bytesOk (encT (numB n)) := by
    unfold encT
    split
    · exact bytesOk_app (hd_byt (by omega)) (numB_byt n)
    · exact numB_byt n
  have hl := encT_short h3
  have hL : (encs (simI n)).length ≤ 55 := by rw [simI_encs, List.length_append]; have : simR.length = 30 := rfl; omega
  show bytesOk (hd 192 (encs (simI n)).length ++ encs (simI n))
  refine bytesOk_app (hd_byt hL) ?_
  rw [simI_encs]
  exact bytesOk_app he simR_byt

theorem lives15_sound : Sound Try.prog 7 fun args k => ∃ n : Nat, args = [.s (.v (.int .u64 n))] ∧ n ≤ 2 ^ 20 ∧ k [.s (.v (.bool true))] := by
  refine Sound.of_body tt_ok ent_ok Try.func7 rfl ?_
  rintro ar har Γ hΓ args k ⟨n, hargs, hn, hk⟩
  obtain ⟨N, hN⟩ : ∃ N : Int, N = n := ⟨_, rfl⟩
  have hrow := simT_row n N hN
  obtain ⟨L, b, hB, hbL, hL1, hL2⟩ := simB hn
  obtain ⟨c, hc⟩ : ∃ c : Int, c = ((192 + L : Nat) : Int) := ⟨_, rfl⟩
  rw [← hc] at hB
  obtain ⟨X, hX⟩ : ∃ X, X = (c :: b).map b8 := ⟨_, rfl⟩
  have hXl : ar.len X = ((L + 1 : Nat) : Int) := by rw [lenIs har, hX, List.length_map, List.length_cons, hbL]
  have hsok := simT_ok (n := n) (by omega)
  have hen := sim_enc hn
  have hde : decD (c :: b) = .ok (simT n) := by
    have := sim_dec hn
    rw [hB] at this
    exact this
  have hbo : bytesOk (c :: b) := by
    rw [← hB]
    exact sim_bytes hn
  rw [hB] at hen
  have callM : ∀ (Γ : Ctx) (d' : Nat) (k : List PR → Prop) (R : Prop), Γ = ctx Try.prog d' → k [.a [.c (.v (.int .i64 0)), .c (.v (.int .u64 0)), .c (.v (.int .u64 N)), .r 4 [.int .u64 0, .int .u64 0, .int .u64 0, .int .u64 0], .r 4 [.int .u64 0, .int .u64 0, .int .u64 0, .int .u64 0], .r 4 [.int .u64 0, .int .u64 0, .int .u64 0, .int .u64 0], .c (.v (.int .u64 21000)), .c (.v (.bool false)), .r 20 [.int .u8 0, .int .u8 0, .int .u8 0, .int .u8 0, .int .u8 0, .int .u8 0, .int .u8 0, .int .u8 0, .int .u8 0, .int .u8 0, .int .u8 0, .int .u8 0, .int .u8 0, .int .u8 0, .int .u8 0, .int .u8 0, .int .u8 0, .int .u8 0, .int .u8 0, .int .u8 0], .r 4 [.int .u64 0, .int .u64 0, .int .u64 0, .int .u64 0], .c (.sl [] []), .c (.sl [] []), .r 4 [.int .u64 0, .int .u64 0, .int .u64 0, .int .u64 0], .c (.sl [] []), .c (.sl [] []), .r 4 [.int .u64 27, .int .u64 0, .int .u64 0, .int .u64 0], .r 4 [.int .u64 0, .int .u64 0, .int .u64 0, .int .u64 0], .r 4 [.int .u64 0, .int .u64 0, .int .u64 0, .int .u64 0]]] → Γ.g 17 [.s (.v (.int .u64 N))] k ∨ R := fun Γ d' k R hΓ hk => call_by hΓ simple15_sound ⟨n, by rw [hN], by rw [hrow]; exact hk⟩
  have callE : ∀ (Γ : Ctx) (d' : Nat) (k : List PR → Prop) (R : Prop), Γ = ctx Try.prog d' → k [.s (.sl X []), .s (.v (.int .i64 0))] → Γ.g 8 [.a [.c (.v (.int .i64 0)), .c (.v (.int .u64 0)), .c (.v (.int .u64 N)), .r 4 [.int .u64 0, .int .u64 0, .int .u64 0, .int .u64 0], .r 4 [.int .u64 0, .int .u64 0, .int .u64 0, .int .u64 0], .r 4 [.int .u64 0, .int .u64 0, .int .u64 0, .int .u64 0], .c (.v (.int .u64 21000)), .c (.v (.bool false)), .r 20 [.int .u8 0, .int .u8 0, .int .u8 0, .int .u8 0, .int .u8 0, .int .u8 0, .int .u8 0, .int .u8 0, .int .u8 0, .int .u8 0, .int .u8 0, .int .u8 0, .int .u8 0, .int .u8 0, .int .u8 0, .int .u8 0, .int .u8 0, .int .u8 0, .int .u8 0, .int .u8 0], .r 4 [.int .u64 0, .int .u64 0, .int .u64 0, .int .u64 0], .c (.sl [] []), .c (.sl [] []), .r 4 [.int .u64 0, .int .u64 0, .int .u64 0, .int .u64 0], .c (.sl [] []), .c (.sl [] []), .r 4 [.int .u64 27, .int .u64 0, .int .u64 0, .int .u64 0], .r 4 [.int .u64 0, .int .u64 0, .int .u64 0, .int .u64 0], .r 4 [.int .u64 0, .int .u64 0, .int .u64 0, .int .u64 0]]] k ∨ R := fun Γ d' k R hΓ hk => call_by hΓ encode15_sound ⟨simT n, by rw [hrow], hsok, simT_fit n, by rw [hen, ← hX]; exact hk⟩
  have callC : ∀ (Γ : Ctx) (d' : Nat) (k : List PR → Prop) (R : Prop), Γ = ctx Try.prog d' → k [.s (.v (.int .i64 0))] → Γ.g 10 [.a [.c (.v (.int .i64 0)), .c (.v (.int .u64 0)), .c (.v (.int .u64 N)), .r 4 [.int .u64 0, .int .u64 0, .int .u64 0, .int .u64 0], .r 4 [.int .u64 0, .int .u64 0, .int .u64 0, .int .u64 0], .r 4 [.int .u64 0, .int .u64 0, .int .u64 0, .int .u64 0], .c (.v (.int .u64 21000)), .c (.v (.bool false)), .r 20 [.int .u8 0, .int .u8 0, .int .u8 0, .int .u8 0, .int .u8 0, .int .u8 0, .int .u8 0, .int .u8 0, .int .u8 0, .int .u8 0, .int .u8 0, .int .u8 0, .int .u8 0, .int .u8 0, .int .u8 0, .int .u8 0, .int .u8 0, .int .u8 0, .int .u8 0, .int .u8 0], .r 4 [.int .u64 0, .int .u64 0, .int .u64 0, .int .u64 0], .c (.sl [] []), .c (.sl [] []), .r 4 [.int .u64 0, .int .u64 0, .int .u64 0, .int .u64 0], .c (.sl [] []), .c (.sl [] []), .r 4 [.int .u64 27, .int .u64 0, .int .u64 0, .int .u64 0], .r 4 [.int .u64 0, .int .u64 0, .int .u64 0, .int .u64 0], .r 4 [.int .u64 0, .int .u64 0, .int .u64 0, .int .u64 0]]] k ∨ R := fun Γ d' k R hΓ hk => call_by hΓ check15_sound ⟨simT n, by rw [hrow], hsok, simT_fit n, by rw [hen]; exact hk⟩
  have callD : ∀ (Γ : Ctx) (d' : Nat) (k : List PR → Prop) (R : Prop), Γ = ctx Try.prog d' → k [.a [.c (.v (.int .i64 0)), .c (.v (.int .u64 0)), .c (.v (.int .u64 N)), .r 4 [.int .u64 0, .int .u64 0, .int .u64 0, .int .u64 0], .r 4 [.int .u64 0, .int .u64 0, .int .u64 0, .int .u64 0], .r 4 [.int .u64 0, .int .u64 0, .int .u64 0, .int .u64 0], .c (.v (.int .u64 21000)), .c (.v (.bool false)), .r 20 [.int .u8 0, .int .u8 0, .int .u8 0, .int .u8 0, .int .u8 0, .int .u8 0, .int .u8 0, .int .u8 0, .int .u8 0, .int .u8 0, .int .u8 0, .int .u8 0, .int .u8 0, .int .u8 0, .int .u8 0, .int .u8 0, .int .u8 0, .int .u8 0, .int .u8 0, .int .u8 0], .r 4 [.int .u64 0, .int .u64 0, .int .u64 0, .int .u64 0], .c (.sl [] []), .c (.sl [] []), .r 4 [.int .u64 0, .int .u64 0, .int .u64 0, .int .u64 0], .c (.sl [] []), .c (.sl [] []), .r 4 [.int .u64 27, .int .u64 0, .int .u64 0, .int .u64 0], .r 4 [.int .u64 0, .int .u64 0, .int .u64 0, .int .u64 0], .r 4 [.int .u64 0, .int .u64 0, .int .u64 0, .int .u64 0]], .s (.v (.int .i64 0))] → Γ.g 4 [.s (.sl X [])] k ∨ R := fun Γ d' k R hΓ hk => call_by hΓ decode15_sound ⟨c :: b, [], by rw [hX], hbo, by rw [List.length_cons]; omega, (by intro z hz; cases hz), by rw [hde, decP, hrow]; exact hk⟩
  have callS : ∀ (Γ : Ctx) (d' : Nat) (k : List PR → Prop) (R : Prop), Γ = ctx Try.prog d' → k [.s (.v (.bool true))] → Γ.g 6 [.a [.c (.v (.int .i64 0)), .c (.v (.int .u64 0)), .c (.v (.int .u64 N)), .r 4 [.int .u64 0, .int .u64 0, .int .u64 0, .int .u64 0], .r 4 [.int .u64 0, .int .u64 0, .int .u64 0, .int .u64 0], .r 4 [.int .u64 0, .int .u64 0, .int .u64 0, .int .u64 0], .c (.v (.int .u64 21000)), .c (.v (.bool false)), .r 20 [.int .u8 0, .int .u8 0, .int .u8 0, .int .u8 0, .int .u8 0, .int .u8 0, .int .u8 0, .int .u8 0, .int .u8 0, .int .u8 0, .int .u8 0, .int .u8 0, .int .u8 0, .int .u8 0, .int .u8 0, .int .u8 0, .int .u8 0, .int .u8 0, .int .u8 0, .int .u8 0], .r 4 [.int .u64 0, .int .u64 0, .int .u64 0, .int .u64 0], .c (.sl [] []), .c (.sl [] []), .r 4 [.int .u64 0, .int .u64 0, .int .u64 0, .int .u64 0], .c (.sl [] []), .c (.sl [] []), .r 4 [.int .u64 27, .int .u64 0, .int .u64 0, .int .u64 0], .r 4 [.int .u64 0, .int .u64 0, .int .u64 0, .int .u64 0], .r 4 [.int .u64 0, .int .u64 0, .int .u64 0, .int .u64 0]], .a [.c (.v (.int .i64 0)), .c (.v (.int .u64 0)), .c (.v (.int .u64 N)), .r 4 [.int .u64 0, .int .u64 0, .int .u64 0, .int .u64 0], .r 4 [.int .u64 0, .int .u64 0, .int .u64 0, .int .u64 0], .r 4 [.int .u64 0, .int .u64 0, .int .u64 0, .int .u64 0], .c (.v (.int .u64 21000)), .c (.v (.bool false)), .r 20 [.int .u8 0, .int .u8 0, .int .u8 0, .int .u8 0, .int .u8 0, .int .u8 0, .int .u8 0, .int .u8 0, .int .u8 0, .int .u8 0, .int .u8 0, .int .u8 0, .int .u8 0, .int .u8 0, .int .u8 0, .int .u8 0, .int .u8 0, .int .u8 0, .int .u8 0, .int .u8 0], .r 4 [.int .u64 0, .int .u64 0, .int .u64 0, .int .u64 0], .c (.sl [] []), .c (.sl [] []), .r 4 [.int .u64 0, .int .u64 0, .int .u64 0, .int .u64 0], .c (.sl [] []), .c (.sl [] []), .r 4 [.int .u64 27, .int .u64 0, .int .u64 0, .int .u64 0], .r 4 [.int .u64 0, .int .u64 0, .int .u64 0, .int .u64 0], .r 4 [.int .u64 0, .int .u64 0, .int .u64 0, .int .u64 0]]] k ∨ R := fun Γ d' k R hΓ hk => call_by hΓ txSame_sound ⟨simT n, simT n, true, by rw [hrow], hsok, hsok, (simT_fit n).small, by simp, hk⟩
  have n00 : ar.cb .neq 0 0 = false := dNne har rfl
  have e00 : ar.cb .eql 0 0 = true := dEq har rfl
  have m1 : ar.cb .lss (ar.len X) 32 = false := dNlt har (by omega)
  have m2 : ar.cb .gtr (ar.len X) 40 = false := dNgt har (by omega)
  have r0 : X[(0 : Int).toNat]? = some [.c (.v (.int .u8 c))] := by rw [hX]; rfl
  have m3 : ar.cb .lss c 223 = false := dNlt har (by omega)
  rw [← hN] at hargs
  clear hrow hen hde hbo hB
  subst hargs
  conv => cbv
  refine callM _ _ _ _ hΓ ?_
  conv => cbv
  refine callE _ _ _ _ hΓ ?_
  conv => cbv
  refine callC _ _ _ _ hΓ ?_
  conv => cbv
  refine gonT n00 ?_
  conv => cbv
  refine gonT n00 ?_
  conv => cbv
  refine gonT m1 ?_
  conv => cbv
  refine gonT m2 ?_
  conv => cbv
  refine ⟨_, Int.le_refl 0, r0, rfl, ?_⟩
  conv => cbv
  refine onF m3 ?_
  conv => cbv
  refine callD _ _ _ _ hΓ ?_
  conv => cbv
  refine onT e00 ?_
  conv => cbv
  refine callS _ _ _ _ hΓ ?_
  conv => cbv
  exact hk
end Go.Eng
namespace Go.Eng
open Go Go.Proofs
set_option maxRecDepth 100000
set_option maxHeartbeats 8000000
set_option linter.unusedVariables false

theorem zeroRow : (zeroTx 0).row = [.c (.v (.int .i64 0)), .c (.v (.int .u64 0)), .c (.v (.int .u64 0)), .r 4 [.int .u64 0, .int .u64 0, .int .u64 0, .int .u64 0], .r 4 [.int .u64 0, .int .u64 0, .int .u64 0, .int .u64 0], .r 4 [.int .u64 0, .int .u64 0, .int .u64 0, .int .u64 0], .c (.v (.int .u64 0)), .c (.v (.bool false)), .r 20 [.int .u8 0, .int .u8 0, .int .u8 0, .int .u8 0, .int .u8 0, .int .u8 0, .int .u8 0, .int .u8 0, .int .u8 0, .int .u8 0, .int .u8 0, .int .u8 0, .int .u8 0, .int .u8 0, .int .u8 0, .int .u8 0, .int .u8 0, .int .u8 0, .int .u8 0, .int .u8 0], .r 4 [.int .u64 0, .int .u64 0, .int .u64 0, .int .u64 0], .c (.sl [] []), .c (.sl [] []), .r 4 [.int .u64 0, .int .u64 0, .int .u64 0, .int .u64 0], .c (.sl [] []), .c (.sl [] []), .r 4 [.int .u64 0, .int .u64 0, .int .u64 0, .int .u64 0], .r 4 [.int .u64 0, .int .u64 0, .int .u64 0, .int .u64 0], .r 4 [.int .u64 0, .int .u64 0, .int .u64 0, .int .u64 0]] := zTxRow_eq
theorem decD_enc {d : List Int} {u : Tx} (hb : bytesOk d) (h : decD d = .ok u) : encR u = (d, 0) := by
  cases d with
  | nil => cases h
  | cons c b => exact decTx_enc hb h
theorem decD_ok {d : List Int} {u : Tx} {n : Nat} (hb : bytesOk d) (hn : 2 * d.length ≤ n) (h : decD d = .ok u) : u.ok ∧ u.lim n := by
  cases d with
  | nil => cases h
  | cons c b => exact decTx_ok hb hn h

theorem txOneWay_sound : Sound Try.prog 3 fun args k => ∃ (d : List Int) (sd : List (List PS)), args = [.s (.sl (d.map b8) sd)] ∧ bytesOk d ∧ d.length ≤ 2 ^ 20 ∧ (∀ z ∈ sd, rlen z = 1) ∧ k [.s (.v (.bool true))] := by
  refine Sound.of_body tt_ok ent_ok Try.func3 rfl ?_
  rintro ar har Γ hΓ args k ⟨d, sd, hargs, hok, hl, hsd, hk⟩
  obtain ⟨D, hD⟩ : ∃ D, D = d.map b8 := ⟨_, rfl⟩
  have hDl : ar.len D = (d.length : Int) := by rw [lenIs har, hD, List.length_map]
  have callCp : ∀ (Γ : Ctx) (d' : Nat) (k : List PR → Prop) (R : Prop), Γ = ctx Try.prog d' → k [.s (.sl D [])] → Γ.g 5 [.s (.sl D sd)] k ∨ R := fun Γ d' k R hΓ hk => call_by hΓ copied15_sound ⟨d, sd, by rw [hD], by omega, by rw [← hD]; exact hk⟩
  have callD0 : ∀ (P : List PR) (Γ : Ctx) (d' : Nat) (k : List PR → Prop) (R : Prop), Γ = ctx Try.prog d' → decP (decD d) = P → k P → Γ.g 4 [.s (.sl D [])] k ∨ R := fun P Γ d' k R hΓ hP hk => call_by hΓ decode15_sound ⟨d, [], by rw [hD], hok, hl, (by intro z hz; cases hz), by rw [hP]; exact hk⟩
  have n00 : ar.cb .neq 0 0 = false := dNne har rfl
  have e00 : ar.cb .eql 0 0 = true := dEq har rfl
  rw [← hD] at hargs
  cases hR : decD d with
  | error e =>
    have ge : e ≠ 0 := decD_err hR
    have ne0 : ar.cb .neq e 0 = true := dNe har ge
    have callD : ∀ (Γ : Ctx) (d' : Nat) (k : List PR → Prop) (R : Prop), Γ = ctx Try.prog d' → k [.a [.c (.v (.int .i64 0)), .c (.v (.int .u64 0)), .c (.v (.int .u64 0)), .r 4 [.int .u64 0, .int .u64 0, .int .u64 0, .int .u64 0], .r 4 [.int .u64 0, .int .u64 0, .int .u64 0, .int .u64 0], .r 4 [.int .u64 0, .int .u64 0, .int .u64 0, .int .u64 0], .c (.v (.int .u64 0)), .c (.v (.bool false)), .r 20 [.int .u8 0, .int .u8 0, .int .u8 0, .int .u8 0, .int .u8 0, .int .u8 0, .int .u8 0, .int .u8 0, .int .u8 0, .int .u8 0, .int .u8 0, .int .u8 0, .int .u8 0, .int .u8 0, .int .u8 0, .int .u8 0, .int .u8 0, .int .u8 0, .int .u8 0, .int .u8 0], .r 4 [.int .u64 0, .int .u64 0, .int .u64 0, .int .u64 0], .c (.sl [] []), .c (.sl [] []), .r 4 [.int .u64 0, .int .u64 0, .int .u64 0, .int .u64 0], .c (.sl [] []), .c (.sl [] []), .r 4 [.int .u64 0, .int .u64 0, .int .u64 0, .int .u64 0], .r 4 [.int .u64 0, .int .u64 0, .int .u64 0, .int .u64 0], .r 4 [.int .u64 0, .int .u64 0, .int .u64 0, .int .u64 0]], .s (.v (.int .i64 e))] → Γ.g 4 [.s (.sl D [])] k ∨ R := fun Γ d' k R hΓ hk => callD0 _ Γ d' k R hΓ (by rw [hR, decP, zeroRow]) hk
    have callS : ∀ (Γ : Ctx) (d' : Nat) (k : List PR → Prop) (R : Prop), Γ = ctx Try.prog d' → k [.s (.v (.bool true))] → Γ.g 6 [.a [.c (.v (.int .i64 0)), .c (.v (.int .u64 0)), .c (.v (.int .u64 0)), .r 4 [.int .u64 0, .int .u64 0, .int .u64 0, .int .u64 0], .r 4 [.int .u64 0, .int .u64 0, .int .u64 0, .int .u64 0], .r 4 [.int .u64 0, .int .u64 0, .int .u64 0, .int .u64 0], .c (.v (.int .u64 0)), .c (.v (.bool false)), .r 20 [.int .u8 0, .int .u8 0, .int .u8 0, .int .u8 0, .int .u8 0, .int .u8 0, .int .u8 0, .int .u8 0, .int .u8 0, .int .u8 0, .int .u8 0, .int .u8 0, .int .u8 0, .int .u8 0, .int .u8 0, .int .u8 0, .int .u8 0, .int .u8 0, .int .u8 0, .int .u8 0], .r 4 [.int .u64 0, .int .u64 0, .int .u64 0, .int .u64 0], .c (.sl [] []), .c (.sl [] []), .r 4 [.int .u64 0, .int .u64 0, .int .u64 0, .int .u64 0], .c (.sl [] []), .c (.sl [] []), .r 4 [.int .u64 0, .int .u64 0, .int .u64 0, .int .u64 0], .r 4 [.int .u64 0, .int .u64 0, .int .u64 0, .int .u64 0], .r 4 [.int .u64 0, .int .u64 0, .int .u64 0, .int .u64 0]], .a [.c (.v (.int .i64 0)), .c (.v (.int .u64 0)), .c (.v (.int .u64 0)), .r 4 [.int .u64 0, .int .u64 0, .int .u64 0, .int .u64 0], .r 4 [.int .u64 0, .int .u64 0, .int .u64 0, .int .u64 0], .r 4 [.int .u64 0, .int .u64 0, .int .u64 0, .int .u64 0], .c (.v (.int .u64 0)), .c (.v (.bool false)), .r 20 [.int .u8 0, .int .u8 0, .int .u8 0, .int .u8 0, .int .u8 0, .int .u8 0, .int .u8 0, .int .u8 0, .int .u8 0, .int .u8 0, .int .u8 0, .int .u8 0, .int .u8 0, .int .u8 0, .int .u8 0, .int .u8 0, .int .u8 0, .int .u8 0, .int .u8 0, .int .u8 0], .r 4 [.int .u64 0, .int .u64 0, .int .u64 0, .int .u64 0], .c (.sl [] []), .c (.sl [] []), .r 4 [.int .u64 0, .int .u64 0, .int .u64 0, .int .u64 0], .c (.sl [] []), .c (.sl [] []), .r 4 [.int .u64 0, .int .u64 0, .int .u64 0, .int .u64 0], .r 4 [.int .u64 0, .int .u64 0, .int .u64 0, .int .u64 0], .r 4 [.int .u64 0, .int .u64 0, .int .u64 0, .int .u64 0]]] k ∨ R := fun Γ d' k R hΓ hk => call_by hΓ txSame_sound ⟨zeroTx 0, zeroTx 0, true, by rw [zeroRow], zeroTx_ok (by omega), zeroTx_ok (by omega), ⟨Nat.zero_le _, Nat.zero_le _, (by intro e he; cases he), Nat.zero_le _, Nat.zero_le _⟩, by simp, hk⟩
    obtain ⟨N, hN⟩ : ∃ N, ar.cv .u64 (ar.len D) = N := ⟨_, rfl⟩
    have hNd : N = (d.length : Int) := by rw [← hN, hDl]; exact cvU64 har (by omega)
    have callL : ∀ (Γ : Ctx) (d' : Nat) (k : List PR → Prop) (R : Prop), Γ = ctx Try.prog d' → k [.s (.v (.bool true))] → Γ.g 7 [.s (.v (.int .u64 N))] k ∨ R := fun Γ d' k R hΓ hk => call_by hΓ lives15_sound ⟨d.length, by rw [hNd], hl, hk⟩
    conv at hN => lhs; cbv
    clear hR hD callD0
    subst hargs
    conv => cbv
    refine callCp _ _ _ _ hΓ ?_
    conv => cbv
    refine callD _ _ _ _ hΓ ?_
    conv => cbv
    refine onT ne0 ?_
    conv => cbv
    refine callS _ _ _ _ hΓ ?_
    conv => cbv
    refine onT rfl ?_
    conv => cbv
    rw [hN]
    refine callL _ _ _ _ hΓ ?_
    conv => cbv
    exact hk
  | ok u =>
    have henc := decD_enc hok hR
    obtain ⟨huo, hul⟩ := decD_ok (n := 2 ^ 21) hok (by omega) hR
    have hrow : ∃ (ty ch no : Int) (pr ti ca : List Value) (ga : Int) (cr : Bool) (to va : List Value) (D' sd' A sa : List (List PS)) (bc : List Value) (B sb U su : List (List PS)) (v r s : List Value), u.row = [.c (.v (.int .i64 ty)), .c (.v (.int .u64 ch)), .c (.v (.int .u64 no)), .r 4 pr, .r 4 ti, .r 4 ca, .c (.v (.int .u64 ga)), .c (.v (.bool cr)), .r 20 to, .r 4 va, .c (.sl D' sd'), .c (.sl A sa), .r 4 bc, .c (.sl B sb), .c (.sl U su), .r 4 v, .r 4 r, .r 4 s] := ⟨_, _, _, _, _, _, _, _, _, _, _, _, _, _, _, _, _, _, _, _, _, _, rfl⟩
    obtain ⟨ty, ch, no, pr, ti, ca, ga, cr, to, va, D', sd', A, sa, bc, B, sb, U, su, v, r, s, hrow⟩ := hrow
    have callD : ∀ (Γ : Ctx) (d' : Nat) (k : List PR → Prop) (R : Prop), Γ = ctx Try.prog d' → k [.a [.c (.v (.int .i64 ty)), .c (.v (.int .u64 ch)), .c (.v (.int .u64 no)), .r 4 pr, .r 4 ti, .r 4 ca, .c (.v (.int .u64 ga)), .c (.v (.bool cr)), .r 20 to, .r 4 va, .c (.sl D' sd'), .c (.sl A sa), .r 4 bc, .c (.sl B sb), .c (.sl U su), .r 4 v, .r 4 r, .r 4 s], .s (.v (.int .i64 0))] → Γ.g 4 [.s (.sl D [])] k ∨ R := fun Γ d' k R hΓ hk => callD0 _ Γ d' k R hΓ (by rw [hR, decP, hrow]) hk
    have callE : ∀ (Γ : Ctx) (d' : Nat) (k : List PR → Prop) (R : Prop), Γ = ctx Try.prog d' → k [.s (.sl D []), .s (.v (.int .i64 0))] → Γ.g 8 [.a [.c (.v (.int .i64 ty)), .c (.v (.int .u64 ch)), .c (.v (.int .u64 no)), .r 4 pr, .r 4 ti, .r 4 ca, .c (.v (.int .u64 ga)), .c (.v (.bool cr)), .r 20 to, .r 4 va, .c (.sl D' sd'), .c (.sl A sa), .r 4 bc, .c (.sl B sb), .c (.sl U su), .r 4 v, .r 4 r, .r 4 s]] k ∨ R := fun Γ d' k R hΓ hk => call_by hΓ encode15_sound ⟨u, by rw [hrow], huo, hul.fit, by rw [henc, ← hD]; exact hk⟩
    have callC : ∀ (Γ : Ctx) (d' : Nat) (k : List PR → Prop) (R : Prop), Γ = ctx Try.prog d' → k [.s (.v (.int .i64 0))] → Γ.g 10 [.a [.c (.v (.int .i64 ty)), .c (.v (.int .u64 ch)), .c (.v (.int .u64 no)), .r 4 pr, .r 4 ti, .r 4 ca, .c (.v (.int .u64 ga)), .c (.v (.bool cr)), .r 20 to, .r 4 va, .c (.sl D' sd'), .c (.sl A sa), .r 4 bc, .c (.sl B sb), .c (.sl U su), .r 4 v, .r 4 r, .r 4 s]] k ∨ R := fun Γ d' k R hΓ hk => call_by hΓ check15_sound ⟨u, by rw [hrow], huo, hul.fit, by rw [henc]; exact hk⟩
    have callS : ∀ (Γ : Ctx) (d' : Nat) (k : List PR → Prop) (R : Prop), Γ = ctx Try.prog d' → k [.s (.v (.bool true))] → Γ.g 9 [.s (.sl D []), .s (.sl D sd)] k ∨ R := fun Γ d' k R hΓ hk => call_by hΓ same15_sound ⟨d, d, [], sd, true, by rw [hD]; rfl, by omega, fun _ _ => trivial, fun _ _ => trivial, by simp, hk⟩
    clear hR hD callD0 hrow henc
    subst hargs
    conv => cbv
    refine callCp _ _ _ _ hΓ ?_
    conv => cbv
    refine callD _ _ _ _ hΓ ?_
    conv => cbv
    refine onF n00 ?_
    conv => cbv
    refine callE _ _ _ _ hΓ ?_
    conv => cbv
    have hk2 : k [.s (.v (.bool (ar.cb .eql 0 0)))] := by rw [e00]; exact hk
    refine onT e00 ?_
    conv => cbv
    refine callS _ _ _ _ hΓ ?_
    conv => cbv
    refine onT rfl ?_
    conv => cbv
    refine callC _ _ _ _ hΓ ?_
    conv => cbv
    exact hk2
end Go.Eng
