/-
  tx.Decode; the law's own functions: copied, same, simple, lives; TxOneWay. Condition: at most 2^25 bytes, each in its range.
  tx.Decode; the law's own functions: copied, same, simple, lives; TxOneWay. Condition: at most 2^20 bytes, each in its range.
  tx.Decode; the law's own functions: copied, same, simple, lives; TxOneWay. Condition: at most 2^20 bytes, each in its range.
  waybilllaw15.lives. No condition.
  TxOneWay. Condition: at most 2^20 bytes, each in its range.
-/
import Derived.Test.YtnaafeeloicklaaDoorG2
import Derived.Test.YtnaafeeloicklaaDoorGB
import Derived.Test.YtnaafeeloicklaaDoorEA
namespace Go.Eng
open Go Go.Proofs
set_option maxRecDepth 100000
set_option maxHeartbeats 8000000
set_option linter.unusedVariables false

def decD (d : List Int) : Except Int Tx := if 16777216 < d.length then .error 2 else match d with
  | [] => .error 70
  | c :: b => decTx (c :: b)
theorem decD_cons {c : Int} {b : List Int} (h : ¬ 16777216 < (c :: b).length) : decD (c :: b) = decTx (c :: b) := if_neg h
theorem decTx_err {d : List Int} {e : Int} (h : decTx d = .error e) : e ≠ 0 := by
  unfold decTx at h
  split at h
  case isFalse h0 => cases h; exact h0
  split at h
  · rename_i e2 h2; cases h; exact decR_err h2
  unfold fieldsTx at h
  split at h
  case isFalse => cases h; decide
  split at h
  case isFalse => cases h; decide
  split at h
  · rename_i e2 h2; cases h; exact decF_err h2
  unfold endTx at h
  split at h
  · split at h
    · exact onE_no (show onE _ _ = _ from h)
    · rename_i h0; cases h; exact h0
  · exact onE_no (show onE _ _ = _ from h)
theorem decD_err {d : List Int} {e : Int} (h : decD d = .error e) : e ≠ 0 := by
  unfold decD at h
  split at h
  · cases h; decide
  · cases d with
    | nil => cases h; decide
    | cons c b => exact decTx_err h
def zTxRow : List PS := txRow 0 0 0 [.int .u64 0, .int .u64 0, .int .u64 0, .int .u64 0] [.int .u64 0, .int .u64 0, .int .u64 0, .int .u64 0] [.int .u64 0, .int .u64 0, .int .u64 0, .int .u64 0] 0 false [.int .u8 0, .int .u8 0, .int .u8 0, .int .u8 0, .int .u8 0, .int .u8 0, .int .u8 0, .int .u8 0, .int .u8 0, .int .u8 0, .int .u8 0, .int .u8 0, .int .u8 0, .int .u8 0, .int .u8 0, .int .u8 0, .int .u8 0, .int .u8 0, .int .u8 0, .int .u8 0] [.int .u64 0, .int .u64 0, .int .u64 0, .int .u64 0] [] [] [] [] [.int .u64 0, .int .u64 0, .int .u64 0, .int .u64 0] [] [] [] [] [.int .u64 0, .int .u64 0, .int .u64 0, .int .u64 0] [.int .u64 0, .int .u64 0, .int .u64 0, .int .u64 0] [.int .u64 0, .int .u64 0, .int .u64 0, .int .u64 0]
theorem zTxRow_eq : (zeroTx 0).row = zTxRow := by
  show txRow 0 _ _ (w4 0) (w4 0) (w4 0) _ _ _ (w4 0) _ _ _ _ (w4 0) _ _ _ _ (w4 0) (w4 0) (w4 0) = _
  rw [w4_zero]; rfl
def decP (R : Except Int Tx) : List PR := match R with
  | .ok u => [.a u.row, .s (.v (.int .i64 0))]
  | .error e => [.a (zeroTx 0).row, .s (.v (.int .i64 e))]

theorem decode15_sound : Sound Tryd.prog 11 fun args k => ∃ (d : List Int) (sd : List (List PS)), args = [.s (.sl (d.map b8) sd)] ∧ bytesOk d ∧ d.length ≤ 2 ^ 25 ∧ (∀ z ∈ sd, rlen z = 1) ∧ k (decP (decD d)) := by
  refine Sound.of_body tt_ok ent_ok Tryd.func11 rfl ?_
  rintro ar har Γ hΓ args k ⟨d, sd, hargs, hok, hl, hsd, hk⟩
  obtain ⟨D, hD⟩ : ∃ D, D = d.map b8 := ⟨_, rfl⟩
  have hDl : ar.len D = (d.length : Int) := by rw [lenIs har, hD, List.length_map]
  have hno : ∀ e, decD d = .error e → k [.a zTxRow, .s (.v (.int .i64 e))] := fun e h => by rw [h, decP, zTxRow_eq] at hk; exact hk
  have hyes : ∀ u, decD d = .ok u → k [.a u.row, .s (.v (.int .i64 0))] := fun u h => by rw [h, decP] at hk; exact hk
  rw [← hD] at hargs
  clear hk
  subst hargs
  conv => cbv
  refine ⟨fun h => ?_, fun h => ?_⟩
  · have g := cGt har (a := ar.len D) (b := 16777216) h
    have hk := hno 2 (if_pos (by omega))
    conv => cbv
    exact hk
  have gL := cNgt har (a := ar.len D) (b := 16777216) h
  conv => cbv
  refine ⟨fun h => ?_, fun h => ?_⟩
  · have g := cEq har (a := ar.len D) (b := 0) h
    have hd : d = [] := List.eq_nil_of_length_eq_zero (by omega)
    have hk := hno 70 (by rw [hd]; rfl)
    conv => cbv
    exact hk
  have g := cNeq har (a := ar.len D) (b := 0) h
  cases d with
  | nil => exact absurd hDl (by rw [List.length_nil]; exact g)
  | cons c b =>
  have hll : ¬ 16777216 < (c :: b).length := by omega
  rw [List.length_cons] at hl
  have hno : ∀ e, decTx (c :: b) = .error e → k [.a zTxRow, .s (.v (.int .i64 e))] := fun e h => hno e ((decD_cons hll).trans h)
  have hyes : ∀ u, decTx (c :: b) = .ok u → k [.a u.row, .s (.v (.int .i64 0))] := fun u h => hyes u ((decD_cons hll).trans h)
  obtain ⟨T, hR⟩ : ∃ T, decTx (c :: b) = T := ⟨_, rfl⟩
  have callD : ∀ (Γ : Ctx) (d' : Nat) (k : List PR → Prop) (R : Prop), Γ = ctx Tryd.prog d' → txK T k → Γ.g 27 [.s (.sl D sd)] k ∨ R := fun Γ d' k R hΓ hk => call_by hΓ txdecode_sound ⟨c, b, sd, by rw [hD], hok, by omega, hsd, by rw [hR]; exact hk⟩
  conv => cbv
  refine callD _ _ _ _ hΓ ?_
  rw [hR] at hno hyes
  have her : ∀ e, T = .error e → e ≠ 0 := fun e he => decTx_err (hR.trans he)
  clear hR callD
  cases T with
  | error e =>
    have hk := hno e rfl
    have ge : e ≠ 0 := her e rfl
    conv => cbv
    intro ty ch no pr ti ca ga cr to va D sd A sa bc B sb U su v r s
    conv => cbv
    refine ⟨fun h => ?_, fun h => ?_⟩
    · conv => cbv
      exact hk
    · have g2 := cNne har (a := e) (b := 0) h
      exact (ge g2).elim
  | ok u =>
    have hk := hyes u rfl
    conv => cbv
    intro ty ch no pr ti ca ga cr to va D sd A sa bc B sb U su v r s hrow
    have hrow : u.row = txRow ty ch no pr ti ca ga cr to va D sd A sa bc B sb U su v r s := hrow.h
    rw [hrow] at hk
    conv => cbv
    have nN : (0 : Int) ≠ 0 → False := fun h => h rfl
    refine ⟨fun h => ?_, fun h => ?_⟩
    · have g2 := cNe har (a := (0 : Int)) (b := 0) h
      exact (nN g2).elim
    · conv => cbv
      exact hk

end Go.Eng
namespace Go.Eng
open Go Go.Proofs
set_option maxRecDepth 100000
set_option maxHeartbeats 8000000
set_option linter.unusedVariables false

theorem copied15_sound : Sound Tryd.prog 12 fun args k => ∃ (d : List Int) (sd : List (List PS)), args = [.s (.sl (d.map b8) sd)] ∧ d.length ≤ 2 ^ 40 ∧ k [.s (.sl (d.map b8) [])] := by
  refine Sound.of_body tt_ok ent_ok Tryd.func12 rfl ?_
  rintro ar har Γ hΓ args k ⟨d, sd, hargs, hl, hk⟩
  obtain ⟨D, hD⟩ : ∃ D, D = d.map b8 := ⟨_, rfl⟩
  have hDl : ar.len D = (d.length : Int) := by rw [lenIs har, hD, List.length_map]
  rw [← hD] at hargs hk
  subst hargs
  conv => cbv
  refine .inr ⟨{ q : Nat × Int × List (List PS) // q.1 ≤ d.length ∧ q.2.1 = q.1 ∧ q.2.2 = (d.take q.1).map b8 },
    fun q => ⟨mk 19 [(0, .s (.p (.sl D sd))), (2, .s .nil), (3, .s (.own 0)), (4, pint q.1.2.1)], [.arr q.1.2.2 5 1 1 true]⟩,
    fun q => d.length - q.1.1, [.slot 3 5], _, ⟨(0, 0, []), Nat.zero_le _, rfl, rfl⟩, rfl, ?_, ?_⟩
  · conv => cbv
    simp
  · rintro ⟨⟨p, pi, L⟩, hq⟩
    have hp : p ≤ d.length := hq.1
    have hpi : pi = (p : Int) := hq.2.1
    have hL : L = (d.take p).map b8 := hq.2.2
    have hLl : L.length = p := by rw [hL, List.length_map, List.length_take]; omega
    dsimp only
    conv => cbv
    refine ⟨fun h => ?_, fun h => ?_⟩
    · have g := cLt har (b := ar.len D) h
      have hlt : p < d.length := by omega
      obtain ⟨x, hx⟩ : ∃ x, d[p]? = some x := ⟨_, List.getElem?_eq_getElem hlt⟩
      have rx : D[pi.toNat]? = some [.c (.v (.int .u8 x))] := by rw [hD, hpi]; simp [hx, b8]
      have hL2 : ar.app L [[.c (.v (.int .u8 x))]] = (d.take (p + 1)).map b8 := by rw [appIs har, hL, take_succ_get hx, List.map_append]; rfl
      conv => cbv
      refine ⟨_, by omega, rx, rfl, ?_⟩
      conv => cbv
      refine ⟨fun _ => ⟨by show (L.length + 1) * 1 ≤ 140737488355328; omega, fun y hy => by rw [List.mem_singleton] at hy; subst hy; rfl⟩, ?_⟩
      refine ⟨⟨(p + 1, ar.ib .add .i64 pi 1, ar.app L [[.c (.v (.int .u8 x))]]), hlt, iSucc har hpi (by omega), hL2⟩, ?_, ?_⟩
      · dsimp only
        conv => cbv
        simp
      · show d.length - (p + 1) < d.length - p
        omega
    · have g := cNlt har (b := ar.len D) h
      have hpe : p = d.length := by omega
      have hLD : L = D := by rw [hL, hpe, List.take_length, hD]
      rw [← hLD] at hk
      conv => cbv
      exact hk

theorem same15_sound : Sound Tryd.prog 15 fun args k => ∃ (xs ys : List (Int)) (s t : List (List PS)) (b : Bool), args = [.s (.sl (xs.map b8') s), .s (.sl (ys.map b8') t)] ∧ xs.length ≤ 2 ^ 40 ∧ (∀ x ∈ xs, True) ∧ (∀ x ∈ ys, True) ∧ (b = true ↔ xs = ys) ∧ k [.s (.v (.bool b))] := by
  refine Sound.of_body tt_ok ent_ok Tryd.func15 rfl ?_
  rintro ar har Γ hΓ args k ⟨xs, ys, s, t, b, hargs, hl, hxo, hyo, hb, hk⟩
  obtain ⟨X, hX⟩ : ∃ X, X = xs.map b8' := ⟨_, rfl⟩
  obtain ⟨Y, hY⟩ : ∃ Y, Y = ys.map b8' := ⟨_, rfl⟩
  have hXl : ar.len X = (xs.length : Int) := by rw [lenIs har, hX, List.length_map]
  have hYl : ar.len Y = (ys.length : Int) := by rw [lenIs har, hY, List.length_map]
  have hno : xs ≠ ys → k [.s (.v (.bool false))] := fun h => by
    have : b = false := by
      cases b with
      | false => rfl
      | true => exact absurd (hb.1 rfl) h
    rw [this] at hk; exact hk
  have hyes : xs = ys → k [.s (.v (.bool true))] := fun h => by rw [hb.2 h] at hk; exact hk
  rw [← hX, ← hY] at hargs
  clear hk
  subst hargs
  conv => cbv
  refine ⟨fun h => ?_, fun h => ?_⟩
  · have g := cNe har (a := ar.len X) (b := ar.len Y) h
    have hk := hno (fun e => g (by rw [hXl, hYl, e]))
    conv => cbv
    exact hk
  · have g := cNne har (a := ar.len X) (b := ar.len Y) h
    have hll : xs.length = ys.length := by omega
    conv => cbv
    refine .inr ⟨{ q : Nat × Int // q.1 ≤ xs.length ∧ q.2 = q.1 ∧ xs.take q.1 = ys.take q.1 },
      fun q => ⟨mk 26 [(0, .s (.p (.sl X s))), (1, .s (.p (.sl Y t))), (5, pint q.1.2)], []⟩,
      fun q => xs.length - q.1.1, [], _, ⟨(0, 0), Nat.zero_le _, rfl, rfl⟩, rfl, ?_, ?_⟩
    · conv => cbv
      simp
    · rintro ⟨⟨p, pi⟩, hq⟩
      have hp : p ≤ xs.length := hq.1
      have hpi : pi = (p : Int) := hq.2.1
      have hsame : xs.take p = ys.take p := hq.2.2
      dsimp only
      conv => cbv
      refine ⟨fun h => ?_, fun h => ?_⟩
      · have g' := cLt har (b := ar.len X) h
        have hlt : p < xs.length := by omega
        obtain ⟨x, hx⟩ : ∃ x, xs[p]? = some x := ⟨_, List.getElem?_eq_getElem hlt⟩
        obtain ⟨y, hy⟩ : ∃ y, ys[p]? = some y := ⟨_, List.getElem?_eq_getElem (by omega)⟩
        skip
        have rx : X[pi.toNat]? = some [.c (.v (.int .u8 x))] := by rw [hX, hpi]; simp [hx, b8']
        have ry : Y[pi.toNat]? = some [.c (.v (.int .u8 y))] := by rw [hY, hpi]; simp [hy, b8']
        conv => cbv
        refine ⟨by rw [har]; kernel_rfl, ?_⟩
        refine ⟨_, by omega, rx, rfl, ?_⟩
        conv => cbv
        refine ⟨_, by omega, ry, rfl, ?_⟩
        conv => cbv
        refine ⟨fun h2 => ?_, fun h2 => ?_⟩
        · have hxy : x ≠ y := cNe har h2
          have hk := hno (fun e => hxy (by rw [e] at hx; rw [hx] at hy; exact Option.some.inj hy))
          conv => cbv
          exact hk
        · have hxy : x = y := cNne har h2
          have hs2 : xs.take (p + 1) = ys.take (p + 1) := by rw [List.take_add_one, List.take_add_one, hx, hy, hsame, hxy]
          conv => cbv
          refine ⟨⟨(p + 1, ar.ib .add .i64 pi 1), hlt, iSucc har hpi (by omega), hs2⟩, ?_, ?_⟩
          · dsimp only
            conv => cbv
            simp
          · show xs.length - (p + 1) < xs.length - p
            omega
      · have g' := cNlt har (b := ar.len X) h
        have hpe : p = xs.length := by omega
        have hk := hyes (by rw [hpe, List.take_length, hll, List.take_length] at hsame; exact hsame)
        conv => cbv
        exact hk



end Go.Eng
namespace Go.Eng
open Go Go.Proofs
set_option maxRecDepth 100000
set_option maxHeartbeats 8000000
set_option linter.unusedVariables false

theorem simple15_sound : Sound Tryd.prog 20 fun args k => ∃ n : Nat, args = [.s (.v (.int .u64 n))] ∧ k [.a (simT n).row] := by
  refine Sound.of_body tt_ok ent_ok Tryd.func20 rfl ?_
  rintro ar har Γ hΓ args k ⟨n, hargs, hk⟩
  obtain ⟨N, hN⟩ : ∃ N : Int, N = n := ⟨_, rfl⟩
  have hrow : (simT n).row = txRow 0 0 N [.int .u64 0, .int .u64 0, .int .u64 0, .int .u64 0] [.int .u64 0, .int .u64 0, .int .u64 0, .int .u64 0] [.int .u64 0, .int .u64 0, .int .u64 0, .int .u64 0] 21000 false [.int .u8 0, .int .u8 0, .int .u8 0, .int .u8 0, .int .u8 0, .int .u8 0, .int .u8 0, .int .u8 0, .int .u8 0, .int .u8 0, .int .u8 0, .int .u8 0, .int .u8 0, .int .u8 0, .int .u8 0, .int .u8 0, .int .u8 0, .int .u8 0, .int .u8 0, .int .u8 0] [.int .u64 0, .int .u64 0, .int .u64 0, .int .u64 0] [] [] [] [] [.int .u64 0, .int .u64 0, .int .u64 0, .int .u64 0] [] [] [] [] [.int .u64 27, .int .u64 0, .int .u64 0, .int .u64 0] [.int .u64 0, .int .u64 0, .int .u64 0, .int .u64 0] [.int .u64 0, .int .u64 0, .int .u64 0, .int .u64 0] := by
    show txRow 0 _ _ (w4 0) (w4 0) (w4 0) _ _ _ (w4 0) _ _ _ _ (w4 0) _ _ _ _ (w4 27) (w4 0) (w4 0) = _
    rw [w4_zero, show w4 27 = [.int .u64 27, .int .u64 0, .int .u64 0, .int .u64 0] from rfl, hN]; rfl
  rw [hrow] at hk
  rw [← hN] at hargs
  subst hargs
  conv => cbv
  exact hk
end Go.Eng
namespace Go.Eng
open Go Go.Proofs
set_option maxRecDepth 100000
set_option maxHeartbeats 8000000
set_option linter.unusedVariables false

theorem simT_row (n : Nat) (N : Int) (hN : N = n) : (simT n).row = [.c (.v (.int .i64 0)), .c (.v (.int .u64 0)), .c (.v (.int .u64 N)), .r 4 [.int .u64 0, .int .u64 0, .int .u64 0, .int .u64 0], .r 4 [.int .u64 0, .int .u64 0, .int .u64 0, .int .u64 0], .r 4 [.int .u64 0, .int .u64 0, .int .u64 0, .int .u64 0], .c (.v (.int .u64 21000)), .c (.v (.bool false)), .r 20 [.int .u8 0, .int .u8 0, .int .u8 0, .int .u8 0, .int .u8 0, .int .u8 0, .int .u8 0, .int .u8 0, .int .u8 0, .int .u8 0, .int .u8 0, .int .u8 0, .int .u8 0, .int .u8 0, .int .u8 0, .int .u8 0, .int .u8 0, .int .u8 0, .int .u8 0, .int .u8 0], .r 4 [.int .u64 0, .int .u64 0, .int .u64 0, .int .u64 0], .c (.sl [] []), .c (.sl [] []), .r 4 [.int .u64 0, .int .u64 0, .int .u64 0, .int .u64 0], .c (.sl [] []), .c (.sl [] []), .r 4 [.int .u64 27, .int .u64 0, .int .u64 0, .int .u64 0], .r 4 [.int .u64 0, .int .u64 0, .int .u64 0, .int .u64 0], .r 4 [.int .u64 0, .int .u64 0, .int .u64 0, .int .u64 0]] := by
  show txRow 0 _ _ (w4 0) (w4 0) (w4 0) _ _ _ (w4 0) _ _ _ _ (w4 0) _ _ _ _ (w4 27) (w4 0) (w4 0) = _
  rw [w4_zero, show w4 27 = [.int .u64 27, .int .u64 0, .int .u64 0, .int .u64 0] from rfl, hN]; rfl

theorem hd_byt {f : Int} {k : Nat} (h : k ≤ 55) : bytesOk (hd f k) := fun x hx => by
  rw [hd, if_pos h, List.mem_singleton] at hx
  omega
theorem bytesOk_app {a b : List Int} (ha : bytesOk a) (hb : bytesOk b) : bytesOk (a ++ b) := fun x hx => by
  rcases List.mem_append.1 hx with h | h
  · exact ha x h
  · exact hb x h
theorem simR_byt : bytesOk simR := by unfold bytesOk simR; decide
theorem sim_bytes {n : Nat} (h : n < 18446744073709551616) : bytesOk (enc (It.lst (simI n))) := by
  have h3 := numB_short h
  have he : bytesOk (encT (numB n)) := by
    unfold encT
    split
    · exact bytesOk_app (hd_byt (by omega)) (numB_byt n)
    · exact numB_byt n
  have hl := encT_short h3
  have hL : (encs (simI n)).length ≤ 55 := by rw [simI_encs, List.length_append]; have : simR.length = 30 := rfl; omega
  show bytesOk (hd 192 (encs (simI n)).length ++ encs (simI n))
  refine bytesOk_app (hd_byt hL) ?_
  rw [simI_encs]
  exact bytesOk_app he simR_byt

theorem lives15_sound : Sound Tryd.prog 7 fun args k => ∃ n : Nat, args = [.s (.v (.int .u64 n))] ∧ n < 18446744073709551616 ∧ k [.s (.v (.bool true))] := by
  refine Sound.of_body tt_ok ent_ok Tryd.func7 rfl ?_
  rintro ar har Γ hΓ args k ⟨n, hargs, hn, hk⟩
  obtain ⟨N, hN⟩ : ∃ N : Int, N = n := ⟨_, rfl⟩
  have hrow := simT_row n N hN
  obtain ⟨L, b, hB, hbL, hL1, hL2⟩ := simB hn
  obtain ⟨c, hc⟩ : ∃ c : Int, c = ((192 + L : Nat) : Int) := ⟨_, rfl⟩
  rw [← hc] at hB
  obtain ⟨X, hX⟩ : ∃ X, X = (c :: b).map b8 := ⟨_, rfl⟩
  have hXl : ar.len X = ((L + 1 : Nat) : Int) := by rw [lenIs har, hX, List.length_map, List.length_cons, hbL]
  have hsok := simT_ok (n := n) (by omega)
  have hen := sim_enc hn
  have hde : decD (c :: b) = .ok (simT n) := by
    have := sim_dec hn
    rw [hB] at this
    rw [decD_cons (by rw [List.length_cons]; omega)]
    exact this
  have hbo : bytesOk (c :: b) := by
    rw [← hB]
    exact sim_bytes hn
  rw [hB] at hen
  have callM : ∀ (Γ : Ctx) (d' : Nat) (k : List PR → Prop) (R : Prop), Γ = ctx Tryd.prog d' → k [.a [.c (.v (.int .i64 0)), .c (.v (.int .u64 0)), .c (.v (.int .u64 N)), .r 4 [.int .u64 0, .int .u64 0, .int .u64 0, .int .u64 0], .r 4 [.int .u64 0, .int .u64 0, .int .u64 0, .int .u64 0], .r 4 [.int .u64 0, .int .u64 0, .int .u64 0, .int .u64 0], .c (.v (.int .u64 21000)), .c (.v (.bool false)), .r 20 [.int .u8 0, .int .u8 0, .int .u8 0, .int .u8 0, .int .u8 0, .int .u8 0, .int .u8 0, .int .u8 0, .int .u8 0, .int .u8 0, .int .u8 0, .int .u8 0, .int .u8 0, .int .u8 0, .int .u8 0, .int .u8 0, .int .u8 0, .int .u8 0, .int .u8 0, .int .u8 0], .r 4 [.int .u64 0, .int .u64 0, .int .u64 0, .int .u64 0], .c (.sl [] []), .c (.sl [] []), .r 4 [.int .u64 0, .int .u64 0, .int .u64 0, .int .u64 0], .c (.sl [] []), .c (.sl [] []), .r 4 [.int .u64 27, .int .u64 0, .int .u64 0, .int .u64 0], .r 4 [.int .u64 0, .int .u64 0, .int .u64 0, .int .u64 0], .r 4 [.int .u64 0, .int .u64 0, .int .u64 0, .int .u64 0]]] → Γ.g 20 [.s (.v (.int .u64 N))] k ∨ R := fun Γ d' k R hΓ hk => call_by hΓ simple15_sound ⟨n, by rw [hN], by rw [hrow]; exact hk⟩
  have callE : ∀ (Γ : Ctx) (d' : Nat) (k : List PR → Prop) (R : Prop), Γ = ctx Tryd.prog d' → k [.s (.sl X []), .s (.v (.int .i64 0))] → Γ.g 8 [.a [.c (.v (.int .i64 0)), .c (.v (.int .u64 0)), .c (.v (.int .u64 N)), .r 4 [.int .u64 0, .int .u64 0, .int .u64 0, .int .u64 0], .r 4 [.int .u64 0, .int .u64 0, .int .u64 0, .int .u64 0], .r 4 [.int .u64 0, .int .u64 0, .int .u64 0, .int .u64 0], .c (.v (.int .u64 21000)), .c (.v (.bool false)), .r 20 [.int .u8 0, .int .u8 0, .int .u8 0, .int .u8 0, .int .u8 0, .int .u8 0, .int .u8 0, .int .u8 0, .int .u8 0, .int .u8 0, .int .u8 0, .int .u8 0, .int .u8 0, .int .u8 0, .int .u8 0, .int .u8 0, .int .u8 0, .int .u8 0, .int .u8 0, .int .u8 0], .r 4 [.int .u64 0, .int .u64 0, .int .u64 0, .int .u64 0], .c (.sl [] []), .c (.sl [] []), .r 4 [.int .u64 0, .int .u64 0, .int .u64 0, .int .u64 0], .c (.sl [] []), .c (.sl [] []), .r 4 [.int .u64 27, .int .u64 0, .int .u64 0, .int .u64 0], .r 4 [.int .u64 0, .int .u64 0, .int .u64 0, .int .u64 0], .r 4 [.int .u64 0, .int .u64 0, .int .u64 0, .int .u64 0]]] k ∨ R := fun Γ d' k R hΓ hk => call_by hΓ encode15_sound ⟨simT n, by rw [hrow], hsok, simT_fit n, by rw [hen, ← hX]; exact hk⟩
  have callC : ∀ (Γ : Ctx) (d' : Nat) (k : List PR → Prop) (R : Prop), Γ = ctx Tryd.prog d' → k [.s (.v (.int .i64 0))] → Γ.g 21 [.a [.c (.v (.int .i64 0)), .c (.v (.int .u64 0)), .c (.v (.int .u64 N)), .r 4 [.int .u64 0, .int .u64 0, .int .u64 0, .int .u64 0], .r 4 [.int .u64 0, .int .u64 0, .int .u64 0, .int .u64 0], .r 4 [.int .u64 0, .int .u64 0, .int .u64 0, .int .u64 0], .c (.v (.int .u64 21000)), .c (.v (.bool false)), .r 20 [.int .u8 0, .int .u8 0, .int .u8 0, .int .u8 0, .int .u8 0, .int .u8 0, .int .u8 0, .int .u8 0, .int .u8 0, .int .u8 0, .int .u8 0, .int .u8 0, .int .u8 0, .int .u8 0, .int .u8 0, .int .u8 0, .int .u8 0, .int .u8 0, .int .u8 0, .int .u8 0], .r 4 [.int .u64 0, .int .u64 0, .int .u64 0, .int .u64 0], .c (.sl [] []), .c (.sl [] []), .r 4 [.int .u64 0, .int .u64 0, .int .u64 0, .int .u64 0], .c (.sl [] []), .c (.sl [] []), .r 4 [.int .u64 27, .int .u64 0, .int .u64 0, .int .u64 0], .r 4 [.int .u64 0, .int .u64 0, .int .u64 0, .int .u64 0], .r 4 [.int .u64 0, .int .u64 0, .int .u64 0, .int .u64 0]]] k ∨ R := fun Γ d' k R hΓ hk => call_by hΓ check15_sound ⟨simT n, by rw [hrow], hsok, simT_fit n, by rw [hen]; exact hk⟩
  have callD : ∀ (Γ : Ctx) (d' : Nat) (k : List PR → Prop) (R : Prop), Γ = ctx Tryd.prog d' → k [.a [.c (.v (.int .i64 0)), .c (.v (.int .u64 0)), .c (.v (.int .u64 N)), .r 4 [.int .u64 0, .int .u64 0, .int .u64 0, .int .u64 0], .r 4 [.int .u64 0, .int .u64 0, .int .u64 0, .int .u64 0], .r 4 [.int .u64 0, .int .u64 0, .int .u64 0, .int .u64 0], .c (.v (.int .u64 21000)), .c (.v (.bool false)), .r 20 [.int .u8 0, .int .u8 0, .int .u8 0, .int .u8 0, .int .u8 0, .int .u8 0, .int .u8 0, .int .u8 0, .int .u8 0, .int .u8 0, .int .u8 0, .int .u8 0, .int .u8 0, .int .u8 0, .int .u8 0, .int .u8 0, .int .u8 0, .int .u8 0, .int .u8 0, .int .u8 0], .r 4 [.int .u64 0, .int .u64 0, .int .u64 0, .int .u64 0], .c (.sl [] []), .c (.sl [] []), .r 4 [.int .u64 0, .int .u64 0, .int .u64 0, .int .u64 0], .c (.sl [] []), .c (.sl [] []), .r 4 [.int .u64 27, .int .u64 0, .int .u64 0, .int .u64 0], .r 4 [.int .u64 0, .int .u64 0, .int .u64 0, .int .u64 0], .r 4 [.int .u64 0, .int .u64 0, .int .u64 0, .int .u64 0]], .s (.v (.int .i64 0))] → Γ.g 11 [.s (.sl X [])] k ∨ R := fun Γ d' k R hΓ hk => call_by hΓ decode15_sound ⟨c :: b, [], by rw [hX], hbo, by rw [List.length_cons]; omega, (by intro z hz; cases hz), by rw [hde, decP, hrow]; exact hk⟩
  have callS : ∀ (Γ : Ctx) (d' : Nat) (k : List PR → Prop) (R : Prop), Γ = ctx Tryd.prog d' → k [.s (.v (.bool true))] → Γ.g 13 [.a [.c (.v (.int .i64 0)), .c (.v (.int .u64 0)), .c (.v (.int .u64 N)), .r 4 [.int .u64 0, .int .u64 0, .int .u64 0, .int .u64 0], .r 4 [.int .u64 0, .int .u64 0, .int .u64 0, .int .u64 0], .r 4 [.int .u64 0, .int .u64 0, .int .u64 0, .int .u64 0], .c (.v (.int .u64 21000)), .c (.v (.bool false)), .r 20 [.int .u8 0, .int .u8 0, .int .u8 0, .int .u8 0, .int .u8 0, .int .u8 0, .int .u8 0, .int .u8 0, .int .u8 0, .int .u8 0, .int .u8 0, .int .u8 0, .int .u8 0, .int .u8 0, .int .u8 0, .int .u8 0, .int .u8 0, .int .u8 0, .int .u8 0, .int .u8 0], .r 4 [.int .u64 0, .int .u64 0, .int .u64 0, .int .u64 0], .c (.sl [] []), .c (.sl [] []), .r 4 [.int .u64 0, .int .u64 0, .int .u64 0, .int .u64 0], .c (.sl [] []), .c (.sl [] []), .r 4 [.int .u64 27, .int .u64 0, .int .u64 0, .int .u64 0], .r 4 [.int .u64 0, .int .u64 0, .int .u64 0, .int .u64 0], .r 4 [.int .u64 0, .int .u64 0, .int .u64 0, .int .u64 0]], .a [.c (.v (.int .i64 0)), .c (.v (.int .u64 0)), .c (.v (.int .u64 N)), .r 4 [.int .u64 0, .int .u64 0, .int .u64 0, .int .u64 0], .r 4 [.int .u64 0, .int .u64 0, .int .u64 0, .int .u64 0], .r 4 [.int .u64 0, .int .u64 0, .int .u64 0, .int .u64 0], .c (.v (.int .u64 21000)), .c (.v (.bool false)), .r 20 [.int .u8 0, .int .u8 0, .int .u8 0, .int .u8 0, .int .u8 0, .int .u8 0, .int .u8 0, .int .u8 0, .int .u8 0, .int .u8 0, .int .u8 0, .int .u8 0, .int .u8 0, .int .u8 0, .int .u8 0, .int .u8 0, .int .u8 0, .int .u8 0, .int .u8 0, .int .u8 0], .r 4 [.int .u64 0, .int .u64 0, .int .u64 0, .int .u64 0], .c (.sl [] []), .c (.sl [] []), .r 4 [.int .u64 0, .int .u64 0, .int .u64 0, .int .u64 0], .c (.sl [] []), .c (.sl [] []), .r 4 [.int .u64 27, .int .u64 0, .int .u64 0, .int .u64 0], .r 4 [.int .u64 0, .int .u64 0, .int .u64 0, .int .u64 0], .r 4 [.int .u64 0, .int .u64 0, .int .u64 0, .int .u64 0]]] k ∨ R := fun Γ d' k R hΓ hk => call_by hΓ txSame_sound ⟨simT n, simT n, true, by rw [hrow], hsok, hsok, (simT_fit n).small, by simp, hk⟩
  have n00 : ar.cb .neq 0 0 = false := dNne har rfl
  have e00 : ar.cb .eql 0 0 = true := dEq har rfl
  have m1 : ar.cb .lss (ar.len X) 32 = false := dNlt har (by omega)
  have m2 : ar.cb .gtr (ar.len X) 40 = false := dNgt har (by omega)
  have r0 : X[(0 : Int).toNat]? = some [.c (.v (.int .u8 c))] := by rw [hX]; rfl
  have m3 : ar.cb .lss c 223 = false := dNlt har (by omega)
  rw [← hN] at hargs
  clear hrow hen hde hbo hB
  subst hargs
  conv => cbv
  refine callM _ _ _ _ hΓ ?_
  conv => cbv
  refine callE _ _ _ _ hΓ ?_
  conv => cbv
  refine callC _ _ _ _ hΓ ?_
  conv => cbv
  refine gonT n00 ?_
  conv => cbv
  refine gonT n00 ?_
  conv => cbv
  refine gonT m1 ?_
  conv => cbv
  refine gonT m2 ?_
  conv => cbv
  refine ⟨_, Int.le_refl 0, r0, rfl, ?_⟩
  conv => cbv
  refine onF m3 ?_
  conv => cbv
  refine callD _ _ _ _ hΓ ?_
  conv => cbv
  refine onT e00 ?_
  conv => cbv
  refine callS _ _ _ _ hΓ ?_
  conv => cbv
  exact hk
end Go.Eng
namespace Go.Eng
open Go Go.Proofs
set_option maxRecDepth 100000
set_option maxHeartbeats 8000000
set_option linter.unusedVariables false

theorem zeroRow : (zeroTx 0).row = [.c (.v (.int .i64 0)), .c (.v (.int .u64 0)), .c (.v (.int .u64 0)), .r 4 [.int .u64 0, .int .u64 0, .int .u64 0, .int .u64 0], .r 4 [.int .u64 0, .int .u64 0, .int .u64 0, .int .u64 0], .r 4 [.int .u64 0, .int .u64 0, .int .u64 0, .int .u64 0], .c (.v (.int .u64 0)), .c (.v (.bool false)), .r 20 [.int .u8 0, .int .u8 0, .int .u8 0, .int .u8 0, .int .u8 0, .int .u8 0, .int .u8 0, .int .u8 0, .int .u8 0, .int .u8 0, .int .u8 0, .int .u8 0, .int .u8 0, .int .u8 0, .int .u8 0, .int .u8 0, .int .u8 0, .int .u8 0, .int .u8 0, .int .u8 0], .r 4 [.int .u64 0, .int .u64 0, .int .u64 0, .int .u64 0], .c (.sl [] []), .c (.sl [] []), .r 4 [.int .u64 0, .int .u64 0, .int .u64 0, .int .u64 0], .c (.sl [] []), .c (.sl [] []), .r 4 [.int .u64 0, .int .u64 0, .int .u64 0, .int .u64 0], .r 4 [.int .u64 0, .int .u64 0, .int .u64 0, .int .u64 0], .r 4 [.int .u64 0, .int .u64 0, .int .u64 0, .int .u64 0]] := zTxRow_eq
theorem decD_tx {d : List Int} {u : Tx} (h : decD d = .ok u) : d.length ≤ 16777216 ∧ decTx d = .ok u := by
  unfold decD at h
  split at h
  · cases h
  · rename_i hl
    cases d with
    | nil => cases h
    | cons c b => exact ⟨by omega, h⟩
theorem decD_enc {d : List Int} {u : Tx} (hb : bytesOk d) (h : decD d = .ok u) : encR u = (d, 0) := decTx_enc hb (decD_tx h).2
theorem decD_ok {d : List Int} {u : Tx} {n : Nat} (hb : bytesOk d) (hn : 2 * d.length ≤ n) (h : decD d = .ok u) : u.ok ∧ u.lim n := decTx_ok hb hn (decD_tx h).2

end Go.Eng
