import Derived.Test.YtgihmigiecfmaaaDoorEA
import Derived.Test.YtgihmigiecfmaaaDoorG2
namespace Go.Eng
open Go Go.Proofs
set_option maxRecDepth 100000
set_option linter.unusedVariables false
theorem encR_ok {t : Tx} (h : (encR t).2 = 0) : encR t = (preB t.ty ++ enc (It.lst (itsL t (txFs t.ty))), 0) ∧ ∀ f ∈ txFs t.ty, (itemP t f).2 = 0 := by
 have h0 := h
 unfold encR at h0
 split at h0
 ·rename_i h1; exact absurd h0 h1
 ·split at h0
  ·cases h0
  ·split at h0
   ·rename_i h1; exact absurd h0 h1
   ·split at h0
    ·cases h0
    ·rename_i h1 h2 h3 h4
     have h3 : (itsR t (txFs t.ty)).2 = 0 := by
      by_cases e : (itsR t (txFs t.ty)).2 = 0
      ·exact e
      ·exact absurd e h3
     obtain ⟨e1, e2, e3⟩ := itsR_ok h3
     refine ⟨?_, e3⟩
     unfold encR
     rw [if_neg h1, if_neg h2, if_neg (fun e => e h3), if_neg h4, e1]
end Go.Eng
namespace Go.Eng
open Go Go.Proofs
set_option maxRecDepth 100000
set_option linter.unusedVariables false
theorem onE_no {α : Type} {e e' : Int} {x : α} (h : onE e x = .error e') : e' ≠ 0 := by
 unfold onE at h
 split at h
 ·cases h
 ·rename_i h0; cases h; exact h0
theorem readF_err {u : Tx} {f e : Int} {x : It} (h : readF u f x = .error e) : e ≠ 0 := by
 unfold readF at h
 split at h
 ·exact onE_no h
 ·split at h
  ·exact onE_no h
  ·split at h
   ·exact onE_no h
   ·split at h
    ·unfold recvR at h
     split at h
     ·split at h
      ·cases h
      ·split at h
       ·cases h
       ·cases h; decide
     ·cases h; decide
    ·split at h
     ·exact onE_no h
     ·split at h
      ·split at h
       ·cases h
       ·cases h; decide
      ·split at h
       ·unfold blobR at h
        split at h
        ·exact onE_no h
        ·cases h; decide
       ·split at h
        ·split at h
         ·cases h
         ·cases h; decide
        ·exact onE_no h
theorem decF_err : ∀ {fs : List Int} {xs : List It} {u : Tx} {e : Int}, decF u fs xs = .error e → e ≠ 0
 | [], _, _, _, h => by cases h
 | _ :: _, [], _, _, h => by cases h
 | f :: fs, x :: xs, u, e, h => by
  rw [decF] at h
  split at h
  ·rename_i e2 h2; cases h; exact readF_err h2
  ·exact decF_err h
def simT (n : Nat) : Tx := ⟨0, 0, n, 0, 0, 0, 21000, false, z20s, 0, [], [], [], [], 0, [], [], [], [], 27, 0, 0⟩
def simI (n : Nat) : List It := [numIt n, numIt 0, numIt 21000, .txt z20s, numIt 0, .txt [], numIt 27, numIt 0, numIt 0]
theorem simI_eq (n : Nat) : itsL (simT n) (txFs 0) = simI n := rfl
theorem simT_ok {n : Nat} (h : n < 18446744073709551616) : (simT n).ok := by
 have hz : (0 : Nat) < M256 := by decide
 have h64 : (0 : Nat) < 18446744073709551616 := by decide
 have h20 : bytesOk z20s := fun x hx => by rw [z20s, List.mem_replicate] at hx; omega
 exact ⟨by show (_ : Int) ≤ 0 ∧ (0 : Int) ≤ _; omega, h64, h, hz, hz, hz, by show 21000 < _; omega, rfl, hz, (by intro x hx; cases hx), hz, (by intro x hx; cases hx), (by intro x hx; cases hx), by show 27 < M256; decide, hz, hz, h20, (by intro x hx; cases hx)⟩
theorem simT_fit (n : Nat) : (simT n).fit := ⟨Nat.zero_le _, Nat.zero_le _, Nat.zero_le _, Nat.zero_le _⟩
def simR : List Int := [128, 130, 82, 8, 148, 0, 0, 0, 0, 0, 0, 0, 0, 0, 0, 0, 0, 0, 0, 0, 0, 0, 0, 0, 0, 128, 128, 27, 128, 128]
theorem numB_zero : numB 0 = [] := by decide
theorem numB_21000 : numB 21000 = [82, 8] := by decide
theorem numB_27 : numB 27 = [27] := by decide
theorem encT_nil : encT [] = [128] := by decide
theorem simI_encs (n : Nat) : encs (simI n) = encT (numB n) ++ simR := by
 show encT (numB n) ++ (encT (numB 0) ++ (encT (numB 21000) ++ (encT z20s ++ (encT (numB 0) ++ (encT [] ++ (encT (numB 27) ++ (encT (numB 0) ++ (encT (numB 0) ++ [])))))))) = _
 rw [numB_zero, numB_21000, numB_27, encT_nil, show encT [82, 8] = [130, 82, 8] from by decide, show encT [27] = [27] from by decide, show encT z20s = [148, 0, 0, 0, 0, 0, 0, 0, 0, 0, 0, 0, 0, 0, 0, 0, 0, 0, 0, 0, 0] from by decide]
 rfl
theorem numB_short {n : Nat} (h : n < 18446744073709551616) : (numB n).length ≤ 8 := by
 rw [numB, be_length]
 rcases Nat.eq_zero_or_pos n with h0 | h0
 ·subst h0; decide
 ·have h1 := pow_blen_le (n := n) (by omega)
  have h2 : 256 ^ (blen n - 1) < 256 ^ 8 := Nat.lt_of_le_of_lt h1 (by omega)
  have h3 := (Nat.pow_lt_pow_iff_right (a := 256) (by omega)).1 h2
  omega
theorem encT_short {q : List Int} (h : q.length ≤ 8) : 1 ≤ (encT q).length ∧ (encT q).length ≤ 9 := by
 refine ⟨(encT_pos q).1, ?_⟩
 unfold encT
 split
 ·rw [List.length_append, hd, if_pos (by omega), List.length_singleton]; omega
 ·omega
theorem simB {n : Nat} (h : n < 18446744073709551616) : ∃ (L : Nat) (b : List Int), enc (It.lst (simI n)) = ((192 + L : Nat) : Int) :: b ∧ b.length = L ∧ 31 ≤ L ∧ L ≤ 39 := by
 obtain ⟨h1, h2⟩ := encT_short (numB_short h)
 refine ⟨(encs (simI n)).length, encs (simI n), ?_, rfl, ?_, ?_⟩
 ·have hL : (encs (simI n)).length ≤ 39 := by rw [simI_encs, List.length_append]; have : simR.length = 30 := rfl; omega
  show hd 192 (encs (simI n)).length ++ encs (simI n) = _
  rw [hd, if_pos (by omega), List.singleton_append]
  congr 1
  omega
 ·rw [simI_encs, List.length_append]; have : simR.length = 30 := rfl; omega
 ·rw [simI_encs, List.length_append]; have : simR.length = 30 := rfl; omega
theorem simI_bulk {n : Nat} (h : n < 18446744073709551616) : (It.lst (simI n)).bulk ≤ 100 := by
 have h1 := numB_short h
 have h0 : (numB 0).length = 0 := by decide
 have h2 : (numB 21000).length = 2 := by decide
 have h3 : (numB 27).length = 1 := by decide
 have h4 : z20s.length = 20 := by decide
 simp only [simI, It.lst, It.bulk, bulks, numIt, It.txt, List.length_nil, h0, h2, h3, h4]
 omega
theorem sim_err {n : Nat} (h : n < 18446744073709551616) : errOf (It.lst (simI n)) = 0 := by
 have h1 := simI_bulk h
 have h2 := sz_le (It.lst (simI n)) (by omega)
 unfold errOf
 rw [if_pos (show okS (It.lst (simI n)) = true from rfl), if_neg (by show ¬ (1024 < dep (It.lst (simI n))); rw [show dep (It.lst (simI n)) = 1 from rfl]; omega), if_neg (by omega)]
theorem sim_its {n : Nat} (h : n < 18446744073709551616) : itsR (simT n) (txFs 0) = (simI n, 0) := by
 have hf : ((txFs 0).find? fun f => decide ((itemP (simT n) f).2 ≠ 0)) = none := by
  rw [List.find?_eq_none]
  intro f hf
  have hf : f ∈ [1, 2, 5, 6, 7, 8, 13, 14, 15] := hf
  simp only [List.mem_cons, List.not_mem_nil, or_false] at hf
  rcases hf with rfl | rfl | rfl | rfl | rfl | rfl | rfl | rfl | rfl <;> simp [itemP]
 unfold itsR
 rw [hf]
 simp only
 rw [simI_eq, sim_err h]
 rfl
theorem sim_draft (n : Nat) : draftE (simT n) = 0 := by
 have h1 : fitsB (simT n) = true := by rfl
 unfold draftE
 rw [h1]
 rfl
theorem sim_enc {n : Nat} (h : n < 18446744073709551616) : encR (simT n) = (enc (It.lst (simI n)), 0) := by
 obtain ⟨L, b, h1, h2, h3, h4⟩ := simB h
 have hs : signB (simT n) = true := by unfold signB; rfl
 unfold encR
 rw [sim_draft, if_neg (by decide), hs, if_neg (by decide), show (simT n).ty = 0 from rfl, sim_its h, if_neg (fun e => e rfl), if_neg]
 ·rfl
 ·rw [h1, List.length_cons]
  show ¬ (16777216 < 0 + (b.length + 1))
  omega
theorem decF_step {u u' : Tx} {f : Int} {fs : List Int} {x : It} {xs : List It} (h : readF u f x = .ok u') : decF u (f :: fs) (x :: xs) = decF u' fs xs := by
 rw [decF, h]
theorem rNum {u : Tx} {f : Int} {n : Nat} (h0 : f ≠ 0) (h1 : f ≠ 1) (h5 : f ≠ 5) (h6 : f ≠ 6) (h8 : f ≠ 8) (h9 : f ≠ 9) (h11 : f ≠ 11) (h12 : f ≠ 12) (hn : n < M256) : readF u f (numIt n) = .ok (setNum u f n) := by
 rw [rFn h0 h1 h5 h6 h8 h9 h11 h12, num_numIt (show n < 256 ^ 32 from hn)]; rfl
theorem sim_decF {n : Nat} (h : n < 18446744073709551616) : decF (zeroTx 0) (txFs 0) (simI n) = .ok (simT n) := by
 have hz : (0 : Nat) < M256 := by decide
 have r1 : readF (zeroTx 0) 1 (numIt n) = .ok { zeroTx 0 with no := n } := by rw [rF1, num_numIt (by omega)]; rfl
 have r3 : ∀ u, readF u 5 (numIt 21000) = .ok { u with ga := 21000 } := fun u => by rw [rF5, num_numIt (by decide)]; rfl
 have r4 : ∀ u, readF u 6 (It.txt z20s) = .ok { u with to := z20s } := fun u => by rw [rF6]; rfl
 have r6 : ∀ u, readF u 8 (It.txt []) = .ok { u with d := [], sd := [] } := fun u => by rw [rF8]; rfl
 show decF (zeroTx 0) [1, 2, 5, 6, 7, 8, 13, 14, 15] [numIt n, numIt 0, numIt 21000, .txt z20s, numIt 0, .txt [], numIt 27, numIt 0, numIt 0] = _
 rw [decF_step r1, decF_step (rNum (by decide) (by decide) (by decide) (by decide) (by decide) (by decide) (by decide) (by decide) hz), decF_step (r3 _), decF_step (r4 _),
  decF_step (rNum (by decide) (by decide) (by decide) (by decide) (by decide) (by decide) (by decide) (by decide) hz), decF_step (r6 _),
  decF_step (rNum (by decide) (by decide) (by decide) (by decide) (by decide) (by decide) (by decide) (by decide) (show 27 < M256 by decide)),
  decF_step (rNum (by decide) (by decide) (by decide) (by decide) (by decide) (by decide) (by decide) (by decide) hz),
  decF_step (rNum (by decide) (by decide) (by decide) (by decide) (by decide) (by decide) (by decide) (by decide) hz)]
 rfl
theorem sim_byt (n : Nat) : (It.lst (simI n)).byt := by
 have h20 : bytesOk z20s := fun x hx => by rw [z20s, List.mem_replicate] at hx; omega
 have h0 : bytesOk [] := fun x hx => by cases hx
 have hn : ∀ m, (numIt m).byt := fun m => ⟨numB_byt m, trivial⟩
 exact ⟨h0, hn _, hn _, hn _, ⟨h20, trivial⟩, hn _, ⟨h0, trivial⟩, hn _, hn _, hn _, trivial⟩
theorem sim_dec {n : Nat} (h : n < 18446744073709551616) : decTx (enc (It.lst (simI n))) = .ok (simT n) := by
 obtain ⟨L, b, h1, h2, h3, h4⟩ := simB h
 have hl : (enc (It.lst (simI n))).length ≤ 16777216 := by rw [h1, List.length_cons]; omega
 have hd := decR_back (it := It.lst (simI n)) rfl (sim_byt n) rfl (by rw [show dep (It.lst (simI n)) = 1 from rfl]; omega) hl
 have hk : kindR (enc (It.lst (simI n))) = (0, enc (It.lst (simI n)), 0) := by
  rw [h1]; simp only [kindR]; rw [if_pos (by omega)]
 unfold decTx
 rw [hk, if_pos rfl, hd]
 show fieldsTx 0 (It.lst (simI n)) = _
 unfold fieldsTx
 rw [if_pos (show (It.lst (simI n)).l = true from rfl), if_pos (show (It.lst (simI n)).its.length = (txFs 0).length from rfl), show (It.lst (simI n)).its = simI n from rfl, sim_decF h]
 show endTx (simT n) = _
 unfold endTx
 rw [if_pos (show (simT n).ty = 0 from rfl), if_pos (show chE (simT n).v = 0 from (by decide : chE 27 = 0))]
 show finTx (simT n) = _
 unfold finTx
 rw [sim_enc h]; rfl
end Go.Eng
namespace Go.Eng
open Go Go.Proofs
set_option maxRecDepth 100000
set_option maxHeartbeats 8000000
set_option linter.unusedVariables false
def decD (d : List Int) : Except Int Tx := if 16777216 < d.length then .error 2 else match d with
 | [] => .error 70
 | c :: b => decTx (c :: b)
theorem decD_cons {c : Int} {b : List Int} (h : ¬ 16777216 < (c :: b).length) : decD (c :: b) = decTx (c :: b) := if_neg h
theorem decTx_err {d : List Int} {e : Int} (h : decTx d = .error e) : e ≠ 0 := by
 unfold decTx at h
 split at h
 case isFalse h0 => cases h; exact h0
 split at h
 ·rename_i e2 h2; cases h; exact decR_err h2
 unfold fieldsTx at h
 split at h
 case isFalse => cases h; decide
 split at h
 case isFalse => cases h; decide
 split at h
 ·rename_i e2 h2; cases h; exact decF_err h2
 unfold endTx at h
 split at h
 ·split at h
  ·exact onE_no (show onE _ _ = _ from h)
  ·rename_i h0; cases h; exact h0
 ·exact onE_no (show onE _ _ = _ from h)
def zTxRow : List PS := txRow 0 0 0 [.int .u64 0, .int .u64 0, .int .u64 0, .int .u64 0] [.int .u64 0, .int .u64 0, .int .u64 0, .int .u64 0] [.int .u64 0, .int .u64 0, .int .u64 0, .int .u64 0] 0 false [.int .u8 0, .int .u8 0, .int .u8 0, .int .u8 0, .int .u8 0, .int .u8 0, .int .u8 0, .int .u8 0, .int .u8 0, .int .u8 0, .int .u8 0, .int .u8 0, .int .u8 0, .int .u8 0, .int .u8 0, .int .u8 0, .int .u8 0, .int .u8 0, .int .u8 0, .int .u8 0] [.int .u64 0, .int .u64 0, .int .u64 0, .int .u64 0] [] [] [] [] [.int .u64 0, .int .u64 0, .int .u64 0, .int .u64 0] [] [] [] [] [.int .u64 0, .int .u64 0, .int .u64 0, .int .u64 0] [.int .u64 0, .int .u64 0, .int .u64 0, .int .u64 0] [.int .u64 0, .int .u64 0, .int .u64 0, .int .u64 0]
theorem zTxRow_eq : (zeroTx 0).row = zTxRow := by
 show txRow 0 _ _ (w4 0) (w4 0) (w4 0) _ _ _ (w4 0) _ _ _ _ (w4 0) _ _ _ _ (w4 0) (w4 0) (w4 0) = _
 rw [w4_zero]; rfl
def decP (R : Except Int Tx) : List PR := match R with
 | .ok u => [.a u.row, .s (.v (.int .i64 0))]
 | .error e => [.a (zeroTx 0).row, .s (.v (.int .i64 e))]
theorem decode15_sound : Sound Tryd.prog 9 fun args k => ∃ (d : List Int) (sd : List (List PS)), args = [.s (.sl (d.map b8) sd)] ∧ bytesOk d ∧ d.length ≤ 2 ^ 25 ∧ (∀ z ∈ sd, rlen z = 1) ∧ k (decP (decD d)) := by
 refine Sound.of_body tt_ok ent_ok Tryd.func9 rfl ?_
 rintro ar har Γ hΓ args k ⟨d, sd, hargs, hok, hl, hsd, hk⟩
 obtain ⟨D, hD⟩ : ∃ D, D = d.map b8 := ⟨_, rfl⟩
 have hDl : ar.len D = (d.length : Int) := by rw [lenIs har, hD, List.length_map]
 have hno : ∀ e, decD d = .error e → k [.a zTxRow, .s (.v (.int .i64 e))] := fun e h => by rw [h, decP, zTxRow_eq] at hk; exact hk
 have hyes : ∀ u, decD d = .ok u → k [.a u.row, .s (.v (.int .i64 0))] := fun u h => by rw [h, decP] at hk; exact hk
 rw [← hD] at hargs
 clear hk
 subst hargs
 conv => cbv
 refine ⟨fun h => ?_, fun h => ?_⟩
 ·have g := cGt har (a := ar.len D) (b := 16777216) h
  have hk := hno 2 (if_pos (by omega))
  conv => cbv
  exact hk
 have gL := cNgt har (a := ar.len D) (b := 16777216) h
 conv => cbv
 refine ⟨fun h => ?_, fun h => ?_⟩
 ·have g := cEq har (a := ar.len D) (b := 0) h
  have hd : d = [] := List.eq_nil_of_length_eq_zero (by omega)
  have hk := hno 70 (by rw [hd]; rfl)
  conv => cbv
  exact hk
 have g := cNeq har (a := ar.len D) (b := 0) h
 cases d with
 | nil => exact absurd hDl (by rw [List.length_nil]; exact g)
 | cons c b =>
 have hll : ¬ 16777216 < (c :: b).length := by omega
 rw [List.length_cons] at hl
 have hno : ∀ e, decTx (c :: b) = .error e → k [.a zTxRow, .s (.v (.int .i64 e))] := fun e h => hno e ((decD_cons hll).trans h)
 have hyes : ∀ u, decTx (c :: b) = .ok u → k [.a u.row, .s (.v (.int .i64 0))] := fun u h => hyes u ((decD_cons hll).trans h)
 obtain ⟨T, hR⟩ : ∃ T, decTx (c :: b) = T := ⟨_, rfl⟩
 have callD : ∀ (Γ : Ctx) (d' : Nat) (k : List PR → Prop) (R : Prop), Γ = ctx Tryd.prog d' → txK T k → Γ.g 23 [.s (.sl D sd)] k ∨ R := fun Γ d' k R hΓ hk => call_by hΓ txdecode_sound ⟨c, b, sd, by rw [hD], hok, by omega, hsd, by rw [hR]; exact hk⟩
 conv => cbv
 refine callD _ _ _ _ hΓ ?_
 rw [hR] at hno hyes
 have her : ∀ e, T = .error e → e ≠ 0 := fun e he => decTx_err (hR.trans he)
 clear hR callD
 cases T with
 | error e =>
  have hk := hno e rfl
  have ge : e ≠ 0 := her e rfl
  conv => cbv
  intro ty ch no pr ti ca ga cr to va D sd A sa bc B sb U su v r s
  conv => cbv
  refine ⟨fun h => ?_, fun h => ?_⟩
  ·conv => cbv
   exact hk
  ·have g2 := cNne har (a := e) (b := 0) h
   exact (ge g2).elim
 | ok u =>
  have hk := hyes u rfl
  conv => cbv
  intro ty ch no pr ti ca ga cr to va D sd A sa bc B sb U su v r s hrow
  have hrow : u.row = txRow ty ch no pr ti ca ga cr to va D sd A sa bc B sb U su v r s := hrow.h
  rw [hrow] at hk
  conv => cbv
  have nN : (0 : Int) ≠ 0 → False := fun h => h rfl
  refine ⟨fun h => ?_, fun h => ?_⟩
  ·have g2 := cNe har (a := (0 : Int)) (b := 0) h
   exact (nN g2).elim
  ·conv => cbv
   exact hk
end Go.Eng
namespace Go.Eng
open Go Go.Proofs
set_option maxRecDepth 100000
set_option maxHeartbeats 8000000
set_option linter.unusedVariables false
theorem same15_sound : Sound Tryd.prog 15 fun args k => ∃ (xs ys : List (Int)) (s t : List (List PS)) (b : Bool), args = [.s (.sl (xs.map b8') s), .s (.sl (ys.map b8') t)] ∧ xs.length ≤ 2 ^ 40 ∧ (∀ x ∈ xs, True) ∧ (∀ x ∈ ys, True) ∧ (b = true ↔ xs = ys) ∧ k [.s (.v (.bool b))] := by
 refine Sound.of_body tt_ok ent_ok Tryd.func15 rfl ?_
 rintro ar har Γ hΓ args k ⟨xs, ys, s, t, b, hargs, hl, hxo, hyo, hb, hk⟩
 obtain ⟨X, hX⟩ : ∃ X, X = xs.map b8' := ⟨_, rfl⟩
 obtain ⟨Y, hY⟩ : ∃ Y, Y = ys.map b8' := ⟨_, rfl⟩
 have hXl : ar.len X = (xs.length : Int) := by rw [lenIs har, hX, List.length_map]
 have hYl : ar.len Y = (ys.length : Int) := by rw [lenIs har, hY, List.length_map]
 have hno : xs ≠ ys → k [.s (.v (.bool false))] := fun h => by
  have : b = false := by
   cases b with
   | false => rfl
   | true => exact absurd (hb.1 rfl) h
  rw [this] at hk; exact hk
 have hyes : xs = ys → k [.s (.v (.bool true))] := fun h => by rw [hb.2 h] at hk; exact hk
 rw [← hX, ← hY] at hargs
 clear hk
 subst hargs
 conv => cbv
 refine ⟨fun h => ?_, fun h => ?_⟩
 ·have g := cNe har (a := ar.len X) (b := ar.len Y) h
  have hk := hno (fun e => g (by rw [hXl, hYl, e]))
  conv => cbv
  exact hk
 ·have g := cNne har (a := ar.len X) (b := ar.len Y) h
  have hll : xs.length = ys.length := by omega
  conv => cbv
  refine .inr ⟨{ q : Nat × Int // q.1 ≤ xs.length ∧ q.2 = q.1 ∧ xs.take q.1 = ys.take q.1 },
   fun q => ⟨mk 26 [(0, .s (.p (.sl X s))), (1, .s (.p (.sl Y t))), (5, pint q.1.2)], []⟩,
   fun q => xs.length - q.1.1, [], _, ⟨(0, 0), Nat.zero_le _, rfl, rfl⟩, rfl, ?_, ?_⟩
  ·conv => cbv
   simp
  ·rintro ⟨⟨p, pi⟩, hq⟩
   have hp : p ≤ xs.length := hq.1
   have hpi : pi = (p : Int) := hq.2.1
   have hsame : xs.take p = ys.take p := hq.2.2
   dsimp only
   conv => cbv
   refine ⟨fun h => ?_, fun h => ?_⟩
   ·have g' := cLt har (b := ar.len X) h
    have hlt : p < xs.length := by omega
    obtain ⟨x, hx⟩ : ∃ x, xs[p]? = some x := ⟨_, List.getElem?_eq_getElem hlt⟩
    obtain ⟨y, hy⟩ : ∃ y, ys[p]? = some y := ⟨_, List.getElem?_eq_getElem (by omega)⟩
    skip
    have rx : X[pi.toNat]? = some [.c (.v (.int .u8 x))] := by rw [hX, hpi]; simp [hx, b8']
    have ry : Y[pi.toNat]? = some [.c (.v (.int .u8 y))] := by rw [hY, hpi]; simp [hy, b8']
    conv => cbv
    refine ⟨by rw [har]; kernel_rfl, ?_⟩
    refine ⟨_, by omega, rx, rfl, ?_⟩
    conv => cbv
    refine ⟨_, by omega, ry, rfl, ?_⟩
    conv => cbv
    refine ⟨fun h2 => ?_, fun h2 => ?_⟩
    ·have hxy : x ≠ y := cNe har h2
     have hk := hno (fun e => hxy (by rw [e] at hx; rw [hx] at hy; exact Option.some.inj hy))
     conv => cbv
     exact hk
    ·have hxy : x = y := cNne har h2
     have hs2 : xs.take (p + 1) = ys.take (p + 1) := by rw [List.take_add_one, List.take_add_one, hx, hy, hsame, hxy]
     conv => cbv
     refine ⟨⟨(p + 1, ar.ib .add .i64 pi 1), hlt, iSucc har hpi (by omega), hs2⟩, ?_, ?_⟩
     ·dsimp only
      conv => cbv
      simp
     ·show xs.length - (p + 1) < xs.length - p
      omega
   ·have g' := cNlt har (b := ar.len X) h
    have hpe : p = xs.length := by omega
    have hk := hyes (by rw [hpe, List.take_length, hll, List.take_length] at hsame; exact hsame)
    conv => cbv
    exact hk
end Go.Eng
namespace Go.Eng
open Go Go.Proofs
set_option maxRecDepth 100000
set_option maxHeartbeats 8000000
set_option linter.unusedVariables false
theorem simple15_sound : Sound Tryd.prog 16 fun args k => ∃ n : Nat, args = [.s (.v (.int .u64 n))] ∧ k [.a (simT n).row] := by
 refine Sound.of_body tt_ok ent_ok Tryd.func16 rfl ?_
 rintro ar har Γ hΓ args k ⟨n, hargs, hk⟩
 obtain ⟨N, hN⟩ : ∃ N : Int, N = n := ⟨_, rfl⟩
 have hrow : (simT n).row = txRow 0 0 N [.int .u64 0, .int .u64 0, .int .u64 0, .int .u64 0] [.int .u64 0, .int .u64 0, .int .u64 0, .int .u64 0] [.int .u64 0, .int .u64 0, .int .u64 0, .int .u64 0] 21000 false [.int .u8 0, .int .u8 0, .int .u8 0, .int .u8 0, .int .u8 0, .int .u8 0, .int .u8 0, .int .u8 0, .int .u8 0, .int .u8 0, .int .u8 0, .int .u8 0, .int .u8 0, .int .u8 0, .int .u8 0, .int .u8 0, .int .u8 0, .int .u8 0, .int .u8 0, .int .u8 0] [.int .u64 0, .int .u64 0, .int .u64 0, .int .u64 0] [] [] [] [] [.int .u64 0, .int .u64 0, .int .u64 0, .int .u64 0] [] [] [] [] [.int .u64 27, .int .u64 0, .int .u64 0, .int .u64 0] [.int .u64 0, .int .u64 0, .int .u64 0, .int .u64 0] [.int .u64 0, .int .u64 0, .int .u64 0, .int .u64 0] := by
  show txRow 0 _ _ (w4 0) (w4 0) (w4 0) _ _ _ (w4 0) _ _ _ _ (w4 0) _ _ _ _ (w4 27) (w4 0) (w4 0) = _
  rw [w4_zero, show w4 27 = [.int .u64 27, .int .u64 0, .int .u64 0, .int .u64 0] from rfl, hN]; rfl
 rw [hrow] at hk
 rw [← hN] at hargs
 subst hargs
 conv => cbv
 exact hk
end Go.Eng
namespace Go.Eng
open Go Go.Proofs
set_option maxRecDepth 100000
set_option maxHeartbeats 8000000
set_option linter.unusedVariables false
theorem simT_row (n : Nat) (N : Int) (hN : N = n) : (simT n).row = [.c (.v (.int .i64 0)), .c (.v (.int .u64 0)), .c (.v (.int .u64 N)), .r 4 [.int .u64 0, .int .u64 0, .int .u64 0, .int .u64 0], .r 4 [.int .u64 0, .int .u64 0, .int .u64 0, .int .u64 0], .r 4 [.int .u64 0, .int .u64 0, .int .u64 0, .int .u64 0], .c (.v (.int .u64 21000)), .c (.v (.bool false)), .r 20 [.int .u8 0, .int .u8 0, .int .u8 0, .int .u8 0, .int .u8 0, .int .u8 0, .int .u8 0, .int .u8 0, .int .u8 0, .int .u8 0, .int .u8 0, .int .u8 0, .int .u8 0, .int .u8 0, .int .u8 0, .int .u8 0, .int .u8 0, .int .u8 0, .int .u8 0, .int .u8 0], .r 4 [.int .u64 0, .int .u64 0, .int .u64 0, .int .u64 0], .c (.sl [] []), .c (.sl [] []), .r 4 [.int .u64 0, .int .u64 0, .int .u64 0, .int .u64 0], .c (.sl [] []), .c (.sl [] []), .r 4 [.int .u64 27, .int .u64 0, .int .u64 0, .int .u64 0], .r 4 [.int .u64 0, .int .u64 0, .int .u64 0, .int .u64 0], .r 4 [.int .u64 0, .int .u64 0, .int .u64 0, .int .u64 0]] := by
 show txRow 0 _ _ (w4 0) (w4 0) (w4 0) _ _ _ (w4 0) _ _ _ _ (w4 0) _ _ _ _ (w4 27) (w4 0) (w4 0) = _
 rw [w4_zero, show w4 27 = [.int .u64 27, .int .u64 0, .int .u64 0, .int .u64 0] from rfl, hN]; rfl
theorem hd_byt {f : Int} {k : Nat} (h : k ≤ 55) : bytesOk (hd f k) := fun x hx => by
 rw [hd, if_pos h, List.mem_singleton] at hx
 omega
theorem bytesOk_app {a b : List Int} (ha : bytesOk a) (hb : bytesOk b) : bytesOk (a ++ b) := fun x hx => by
 rcases List.mem_append.1 hx with h | h
 ·exact ha x h
 ·exact hb x h
theorem simR_byt : bytesOk simR := by unfold bytesOk simR; decide
theorem sim_bytes {n : Nat} (h : n < 18446744073709551616) : bytesOk (enc (It.lst (simI n))) := by
 have h3 := numB_short h
 have he : bytesOk (encT (numB n)) := by
  unfold encT
  split
  ·exact bytesOk_app (hd_byt (by omega)) (numB_byt n)
  ·exact numB_byt n
 have hl := encT_short h3
 have hL : (encs (simI n)).length ≤ 55 := by rw [simI_encs, List.length_append]; have : simR.length = 30 := rfl; omega
 show bytesOk (hd 192 (encs (simI n)).length ++ encs (simI n))
 refine bytesOk_app (hd_byt hL) ?_
 rw [simI_encs]
 exact bytesOk_app he simR_byt
theorem lives15_sound : Sound Tryd.prog 5 fun args k => ∃ n : Nat, args = [.s (.v (.int .u64 n))] ∧ n < 18446744073709551616 ∧ k [.s (.v (.bool true))] := by
 refine Sound.of_body tt_ok ent_ok Tryd.func5 rfl ?_
 rintro ar har Γ hΓ args k ⟨n, hargs, hn, hk⟩
 obtain ⟨N, hN⟩ : ∃ N : Int, N = n := ⟨_, rfl⟩
 have hrow := simT_row n N hN
 obtain ⟨L, b, hB, hbL, hL1, hL2⟩ := simB hn
 obtain ⟨c, hc⟩ : ∃ c : Int, c = ((192 + L : Nat) : Int) := ⟨_, rfl⟩
 rw [← hc] at hB
 obtain ⟨X, hX⟩ : ∃ X, X = (c :: b).map b8 := ⟨_, rfl⟩
 have hXl : ar.len X = ((L + 1 : Nat) : Int) := by rw [lenIs har, hX, List.length_map, List.length_cons, hbL]
 have hsok := simT_ok (n := n) (by omega)
 have hen := sim_enc hn
 have hde : decD (c :: b) = .ok (simT n) := by
  have := sim_dec hn
  rw [hB] at this
  rw [decD_cons (by rw [List.length_cons]; omega)]
  exact this
 have hbo : bytesOk (c :: b) := by
  rw [← hB]
  exact sim_bytes hn
 rw [hB] at hen
 have callM : ∀ (Γ : Ctx) (d' : Nat) (k : List PR → Prop) (R : Prop), Γ = ctx Tryd.prog d' → k [.a [.c (.v (.int .i64 0)), .c (.v (.int .u64 0)), .c (.v (.int .u64 N)), .r 4 [.int .u64 0, .int .u64 0, .int .u64 0, .int .u64 0], .r 4 [.int .u64 0, .int .u64 0, .int .u64 0, .int .u64 0], .r 4 [.int .u64 0, .int .u64 0, .int .u64 0, .int .u64 0], .c (.v (.int .u64 21000)), .c (.v (.bool false)), .r 20 [.int .u8 0, .int .u8 0, .int .u8 0, .int .u8 0, .int .u8 0, .int .u8 0, .int .u8 0, .int .u8 0, .int .u8 0, .int .u8 0, .int .u8 0, .int .u8 0, .int .u8 0, .int .u8 0, .int .u8 0, .int .u8 0, .int .u8 0, .int .u8 0, .int .u8 0, .int .u8 0], .r 4 [.int .u64 0, .int .u64 0, .int .u64 0, .int .u64 0], .c (.sl [] []), .c (.sl [] []), .r 4 [.int .u64 0, .int .u64 0, .int .u64 0, .int .u64 0], .c (.sl [] []), .c (.sl [] []), .r 4 [.int .u64 27, .int .u64 0, .int .u64 0, .int .u64 0], .r 4 [.int .u64 0, .int .u64 0, .int .u64 0, .int .u64 0], .r 4 [.int .u64 0, .int .u64 0, .int .u64 0, .int .u64 0]]] → Γ.g 16 [.s (.v (.int .u64 N))] k ∨ R := fun Γ d' k R hΓ hk => call_by hΓ simple15_sound ⟨n, by rw [hN], by rw [hrow]; exact hk⟩
 have callE : ∀ (Γ : Ctx) (d' : Nat) (k : List PR → Prop) (R : Prop), Γ = ctx Tryd.prog d' → k [.s (.sl X []), .s (.v (.int .i64 0))] → Γ.g 6 [.a [.c (.v (.int .i64 0)), .c (.v (.int .u64 0)), .c (.v (.int .u64 N)), .r 4 [.int .u64 0, .int .u64 0, .int .u64 0, .int .u64 0], .r 4 [.int .u64 0, .int .u64 0, .int .u64 0, .int .u64 0], .r 4 [.int .u64 0, .int .u64 0, .int .u64 0, .int .u64 0], .c (.v (.int .u64 21000)), .c (.v (.bool false)), .r 20 [.int .u8 0, .int .u8 0, .int .u8 0, .int .u8 0, .int .u8 0, .int .u8 0, .int .u8 0, .int .u8 0, .int .u8 0, .int .u8 0, .int .u8 0, .int .u8 0, .int .u8 0, .int .u8 0, .int .u8 0, .int .u8 0, .int .u8 0, .int .u8 0, .int .u8 0, .int .u8 0], .r 4 [.int .u64 0, .int .u64 0, .int .u64 0, .int .u64 0], .c (.sl [] []), .c (.sl [] []), .r 4 [.int .u64 0, .int .u64 0, .int .u64 0, .int .u64 0], .c (.sl [] []), .c (.sl [] []), .r 4 [.int .u64 27, .int .u64 0, .int .u64 0, .int .u64 0], .r 4 [.int .u64 0, .int .u64 0, .int .u64 0, .int .u64 0], .r 4 [.int .u64 0, .int .u64 0, .int .u64 0, .int .u64 0]]] k ∨ R := fun Γ d' k R hΓ hk => call_by hΓ encode15_sound ⟨simT n, by rw [hrow], hsok, simT_fit n, by rw [hen, ← hX]; exact hk⟩
 have callC : ∀ (Γ : Ctx) (d' : Nat) (k : List PR → Prop) (R : Prop), Γ = ctx Tryd.prog d' → k [.s (.v (.int .i64 0))] → Γ.g 17 [.a [.c (.v (.int .i64 0)), .c (.v (.int .u64 0)), .c (.v (.int .u64 N)), .r 4 [.int .u64 0, .int .u64 0, .int .u64 0, .int .u64 0], .r 4 [.int .u64 0, .int .u64 0, .int .u64 0, .int .u64 0], .r 4 [.int .u64 0, .int .u64 0, .int .u64 0, .int .u64 0], .c (.v (.int .u64 21000)), .c (.v (.bool false)), .r 20 [.int .u8 0, .int .u8 0, .int .u8 0, .int .u8 0, .int .u8 0, .int .u8 0, .int .u8 0, .int .u8 0, .int .u8 0, .int .u8 0, .int .u8 0, .int .u8 0, .int .u8 0, .int .u8 0, .int .u8 0, .int .u8 0, .int .u8 0, .int .u8 0, .int .u8 0, .int .u8 0], .r 4 [.int .u64 0, .int .u64 0, .int .u64 0, .int .u64 0], .c (.sl [] []), .c (.sl [] []), .r 4 [.int .u64 0, .int .u64 0, .int .u64 0, .int .u64 0], .c (.sl [] []), .c (.sl [] []), .r 4 [.int .u64 27, .int .u64 0, .int .u64 0, .int .u64 0], .r 4 [.int .u64 0, .int .u64 0, .int .u64 0, .int .u64 0], .r 4 [.int .u64 0, .int .u64 0, .int .u64 0, .int .u64 0]]] k ∨ R := fun Γ d' k R hΓ hk => call_by hΓ check15_sound ⟨simT n, by rw [hrow], hsok, simT_fit n, by rw [hen]; exact hk⟩
 have callD : ∀ (Γ : Ctx) (d' : Nat) (k : List PR → Prop) (R : Prop), Γ = ctx Tryd.prog d' → k [.a [.c (.v (.int .i64 0)), .c (.v (.int .u64 0)), .c (.v (.int .u64 N)), .r 4 [.int .u64 0, .int .u64 0, .int .u64 0, .int .u64 0], .r 4 [.int .u64 0, .int .u64 0, .int .u64 0, .int .u64 0], .r 4 [.int .u64 0, .int .u64 0, .int .u64 0, .int .u64 0], .c (.v (.int .u64 21000)), .c (.v (.bool false)), .r 20 [.int .u8 0, .int .u8 0, .int .u8 0, .int .u8 0, .int .u8 0, .int .u8 0, .int .u8 0, .int .u8 0, .int .u8 0, .int .u8 0, .int .u8 0, .int .u8 0, .int .u8 0, .int .u8 0, .int .u8 0, .int .u8 0, .int .u8 0, .int .u8 0, .int .u8 0, .int .u8 0], .r 4 [.int .u64 0, .int .u64 0, .int .u64 0, .int .u64 0], .c (.sl [] []), .c (.sl [] []), .r 4 [.int .u64 0, .int .u64 0, .int .u64 0, .int .u64 0], .c (.sl [] []), .c (.sl [] []), .r 4 [.int .u64 27, .int .u64 0, .int .u64 0, .int .u64 0], .r 4 [.int .u64 0, .int .u64 0, .int .u64 0, .int .u64 0], .r 4 [.int .u64 0, .int .u64 0, .int .u64 0, .int .u64 0]], .s (.v (.int .i64 0))] → Γ.g 9 [.s (.sl X [])] k ∨ R := fun Γ d' k R hΓ hk => call_by hΓ decode15_sound ⟨c :: b, [], by rw [hX], hbo, by rw [List.length_cons]; omega, (by intro z hz; cases hz), by rw [hde, decP, hrow]; exact hk⟩
 have callS : ∀ (Γ : Ctx) (d' : Nat) (k : List PR → Prop) (R : Prop), Γ = ctx Tryd.prog d' → k [.s (.v (.bool true))] → Γ.g 10 [.a [.c (.v (.int .i64 0)), .c (.v (.int .u64 0)), .c (.v (.int .u64 N)), .r 4 [.int .u64 0, .int .u64 0, .int .u64 0, .int .u64 0], .r 4 [.int .u64 0, .int .u64 0, .int .u64 0, .int .u64 0], .r 4 [.int .u64 0, .int .u64 0, .int .u64 0, .int .u64 0], .c (.v (.int .u64 21000)), .c (.v (.bool false)), .r 20 [.int .u8 0, .int .u8 0, .int .u8 0, .int .u8 0, .int .u8 0, .int .u8 0, .int .u8 0, .int .u8 0, .int .u8 0, .int .u8 0, .int .u8 0, .int .u8 0, .int .u8 0, .int .u8 0, .int .u8 0, .int .u8 0, .int .u8 0, .int .u8 0, .int .u8 0, .int .u8 0], .r 4 [.int .u64 0, .int .u64 0, .int .u64 0, .int .u64 0], .c (.sl [] []), .c (.sl [] []), .r 4 [.int .u64 0, .int .u64 0, .int .u64 0, .int .u64 0], .c (.sl [] []), .c (.sl [] []), .r 4 [.int .u64 27, .int .u64 0, .int .u64 0, .int .u64 0], .r 4 [.int .u64 0, .int .u64 0, .int .u64 0, .int .u64 0], .r 4 [.int .u64 0, .int .u64 0, .int .u64 0, .int .u64 0]], .a [.c (.v (.int .i64 0)), .c (.v (.int .u64 0)), .c (.v (.int .u64 N)), .r 4 [.int .u64 0, .int .u64 0, .int .u64 0, .int .u64 0], .r 4 [.int .u64 0, .int .u64 0, .int .u64 0, .int .u64 0], .r 4 [.int .u64 0, .int .u64 0, .int .u64 0, .int .u64 0], .c (.v (.int .u64 21000)), .c (.v (.bool false)), .r 20 [.int .u8 0, .int .u8 0, .int .u8 0, .int .u8 0, .int .u8 0, .int .u8 0, .int .u8 0, .int .u8 0, .int .u8 0, .int .u8 0, .int .u8 0, .int .u8 0, .int .u8 0, .int .u8 0, .int .u8 0, .int .u8 0, .int .u8 0, .int .u8 0, .int .u8 0, .int .u8 0], .r 4 [.int .u64 0, .int .u64 0, .int .u64 0, .int .u64 0], .c (.sl [] []), .c (.sl [] []), .r 4 [.int .u64 0, .int .u64 0, .int .u64 0, .int .u64 0], .c (.sl [] []), .c (.sl [] []), .r 4 [.int .u64 27, .int .u64 0, .int .u64 0, .int .u64 0], .r 4 [.int .u64 0, .int .u64 0, .int .u64 0, .int .u64 0], .r 4 [.int .u64 0, .int .u64 0, .int .u64 0, .int .u64 0]]] k ∨ R := fun Γ d' k R hΓ hk => call_by hΓ txSame_sound ⟨simT n, simT n, true, by rw [hrow], hsok, hsok, (simT_fit n).small, by simp, hk⟩
 have n00 : ar.cb .neq 0 0 = false := dNne har rfl
 have e00 : ar.cb .eql 0 0 = true := dEq har rfl
 have m1 : ar.cb .lss (ar.len X) 32 = false := dNlt har (by omega)
 have m2 : ar.cb .gtr (ar.len X) 40 = false := dNgt har (by omega)
 have r0 : X[(0 : Int).toNat]? = some [.c (.v (.int .u8 c))] := by rw [hX]; rfl
 have m3 : ar.cb .lss c 223 = false := dNlt har (by omega)
 rw [← hN] at hargs
 clear hrow hen hde hbo hB
 subst hargs
 conv => cbv
 refine callM _ _ _ _ hΓ ?_
 conv => cbv
 refine callE _ _ _ _ hΓ ?_
 conv => cbv
 refine callC _ _ _ _ hΓ ?_
 conv => cbv
 refine gonT n00 ?_
 conv => cbv
 refine gonT n00 ?_
 conv => cbv
 refine gonT m1 ?_
 conv => cbv
 refine gonT m2 ?_
 conv => cbv
 refine ⟨_, Int.le_refl 0, r0, rfl, ?_⟩
 conv => cbv
 refine onF m3 ?_
 conv => cbv
 refine callD _ _ _ _ hΓ ?_
 conv => cbv
 refine onT e00 ?_
 conv => cbv
 refine callS _ _ _ _ hΓ ?_
 conv => cbv
 exact hk
end Go.Eng
namespace Go.Eng
open Go Go.Proofs
set_option maxRecDepth 100000
set_option maxHeartbeats 8000000
set_option linter.unusedVariables false
end Go.Eng
namespace Go.Eng
open Go Go.Proofs
set_option maxRecDepth 100000
set_option linter.unusedVariables false
theorem encR_more {t : Tx} (h : (encR t).2 = 0) : draftE t = 0 ∧ signB t = true ∧ errOf (It.lst (itsL t (txFs t.ty))) = 0 ∧ (preB t.ty).length + (enc (It.lst (itsL t (txFs t.ty)))).length ≤ 16777216 := by
 have h0 := h
 unfold encR at h0
 split at h0
 ·rename_i h1; exact absurd h0 h1
 ·rename_i h1
  split at h0
  ·cases h0
  ·rename_i h2
   split at h0
   ·rename_i h3; exact absurd h0 h3
   ·rename_i h3
    split at h0
    ·cases h0
    ·rename_i h4
     have h3 : (itsR t (txFs t.ty)).2 = 0 := by
      by_cases e : (itsR t (txFs t.ty)).2 = 0
      ·exact e
      ·exact absurd e h3
     obtain ⟨e1, e2, e3⟩ := itsR_ok h3
     rw [e1] at h4
     refine ⟨?_, by simpa using h2, e2, by omega⟩
     by_cases e : draftE t = 0
     ·exact e
     ·exact absurd e h1
end Go.Eng
namespace Go.Eng
open Go Go.Proofs
set_option maxRecDepth 100000
set_option linter.unusedVariables false
theorem absentB_core (t : Tx) (f : Int) : absentB t.core f = absentB t f := by
 have e : t.core.ac.length = t.ac.length := List.length_map ..
 unfold absentB; rw [e]; rfl
theorem okF_core (t : Tx) (f : Int) : okF t.core f = okF t f := by unfold okF; rw [absentB_core]; rfl
theorem fitsB_core (t : Tx) : fitsB t.core = fitsB t := by
 have h : okF t.core = okF t := funext (okF_core t)
 unfold fitsB; rw [h]; rfl
theorem draftE_core (t : Tx) : draftE t.core = draftE t := by unfold draftE; rw [fitsB_core]; rfl
theorem esIts_cor (es : List Ent) : esIts (es.map Ent.cor) = esIts es := by unfold esIts; rw [List.map_map]; rfl
theorem itemP_core (t : Tx) : itemP t.core = itemP t := by
 funext f
 have h : esIts t.core.ac = esIts t.ac := esIts_cor t.ac
 unfold itemP; rw [h]; rfl
theorem itsR_core (t : Tx) (fs : List Int) : itsR t.core fs = itsR t fs := by unfold itsR itsL; rw [itemP_core]
theorem encR_core (t : Tx) : encR t.core = encR t := by
 unfold encR
 rw [draftE_core, show t.core.ty = t.ty from rfl, itsR_core]; rfl
theorem encR_same {t u : Tx} (h : t.core = u.core) : encR t = encR u := by rw [← encR_core, h, encR_core]
theorem encLst (its : List It) : enc (It.lst its) = hd 192 (encs its).length ++ encs its := rfl
theorem enc_short {t : Tx} (h : (encR t).2 = 0) : (encR t).1.length ≤ 16777216 ∧ 0 < (encR t).1.length := by
 obtain ⟨hd, _, _, hl⟩ := encR_more h
 rw [(encR_ok h).1]
 show (preB t.ty ++ _).length ≤ _ ∧ 0 < (preB t.ty ++ _).length
 rw [List.length_append]
 refine ⟨hl, ?_⟩
 rw [encLst, List.length_append]
 have := hd_pos 192 (encs (itsL t (txFs t.ty))).length
 omega
end Go.Eng
namespace Go.Eng
open Go Go.Proofs
set_option maxRecDepth 100000
set_option maxHeartbeats 8000000
set_option linter.unusedVariables false
end Go.Eng
