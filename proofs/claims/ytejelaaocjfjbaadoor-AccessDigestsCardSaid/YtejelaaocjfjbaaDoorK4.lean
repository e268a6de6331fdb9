/-
  The sponge as a plain function on bytes: what is taken in, block by block; the last block. No program in sight.
-/
import Derived.Test.YtejelaaocjfjbaaDoorK0
namespace Go.Eng
open Go
set_option linter.unusedVariables false

def b2w (x : Int) : W6 := BitVec.ofNat 64 x.toNat
def xorV (L : List W6) (B : List Int) (n : Nat) : W6 := g L (n / 8) ^^^ (b2w (B.getD n 0) <<< (8 * (n % 8)))
def xorIn (L : List W6) (B : List Int) : Nat → List W6
  | 0 => L
  | n + 1 => (xorIn L B n).set (n / 8) (xorV (xorIn L B n) B n)
theorem xorIn_len (L : List W6) (B : List Int) : ∀ n, (xorIn L B n).length = L.length
  | 0 => rfl
  | n + 1 => by rw [xorIn, List.length_set, xorIn_len L B n]
def absb (L : List W6) (B : List Int) : List W6 := perm (xorIn L B 136)
theorem absb_len (L : List W6) (B : List Int) : (absb L B).length = L.length := by rw [absb, perm_len, xorIn_len]
def absN (bs : List Int) : Nat → List W6
  | 0 => List.replicate 25 0
  | n + 1 => absb (absN bs n) ((bs.drop (136 * n)).take 136)
theorem absN_len (bs : List Int) : ∀ n, (absN bs n).length = 25
  | 0 => rfl
  | n + 1 => by rw [absN, absb_len, absN_len bs n]
def sqV (L : List W6) (k : Nat) : Int := (((g L (k / 8)) >>> (8 * (k % 8))).toNat % 256 : Nat)
def sq (L : List W6) : List Int := (List.range 32).map (sqV L)
def tailB (r : Nat) : List Int := if r = 135 then [129] else 1 :: (List.replicate (134 - r) 0 ++ [128])
def filled (bs : List Int) : List Int := bs ++ tailB (bs.length % 136)
/-- The digest of a text. -/
def kec (bs : List Int) : List Int := sq (absN (filled bs) (bs.length / 136 + 1))

theorem tailB_len {r : Nat} (h : r < 136) : (tailB r).length = 136 - r := by
  unfold tailB
  split
  · rename_i e; subst e; rfl
  · simp; omega

theorem absN_append (bs x : List Int) : ∀ n, 136 * n ≤ bs.length → absN (bs ++ x) n = absN bs n
  | 0, _ => rfl
  | n + 1, h => by
    rw [absN, absN, absN_append bs x n (by omega), List.drop_append_of_le_length (by omega), List.take_append_of_le_length (by rw [List.length_drop]; omega)]

/-- What the sponge holds when bs has been taken in. -/
structure Held (bs : List Int) (L : List W6) (P : List Int) (h : Nat) : Prop where
  l : L = absN bs (bs.length / 136)
  p : P.length = 136
  e : h = bs.length % 136
  r : P.take h = bs.drop (136 * (bs.length / 136))

theorem Held.start (P : List Int) (hp : P.length = 136) : Held [] (List.replicate 25 0) P 0 := ⟨rfl, hp, rfl, by simp⟩

/-- A piece goes in that fills no block. -/
theorem Held.part {bs : List Int} {L : List W6} {P : List Int} {h : Nat} (H : Held bs L P h) (x : List Int) (hx : h + x.length < 136) : Held (bs ++ x) L (P.take h ++ (x ++ P.drop (h + x.length))) (h + x.length) := by
  obtain ⟨h1, h2, h3, h4⟩ := H
  have e1 : (bs ++ x).length / 136 = bs.length / 136 := by rw [List.length_append]; omega
  have e2 : (bs ++ x).length % 136 = h + x.length := by rw [List.length_append]; omega
  have hle : 136 * (bs.length / 136) ≤ bs.length := by omega
  refine ⟨by rw [e1, absN_append _ _ _ hle, h1], by simp [h2]; omega, e2.symm, ?_⟩
  rw [e1, List.drop_append_of_le_length hle, ← h4, ← List.append_assoc, List.take_append_of_le_length (by simp [h2]; omega), List.take_of_length_le (by simp [h2]; omega)]

/-- A piece goes in that fills the block. -/
theorem Held.full {bs : List Int} {L : List W6} {P : List Int} {h : Nat} (H : Held bs L P h) (x : List Int) (hx : h + x.length = 136) : Held (bs ++ x) (absb L (P.take h ++ (x ++ P.drop (h + x.length)))) (P.take h ++ (x ++ P.drop (h + x.length))) 0 := by
  obtain ⟨h1, h2, h3, h4⟩ := H
  have e1 : (bs ++ x).length / 136 = bs.length / 136 + 1 := by rw [List.length_append]; omega
  have e2 : (bs ++ x).length % 136 = 0 := by rw [List.length_append]; omega
  have hle : 136 * (bs.length / 136) ≤ bs.length := by omega
  have e3 : P.take h ++ (x ++ P.drop (h + x.length)) = bs.drop (136 * (bs.length / 136)) ++ x := by
    rw [← h4, List.drop_of_length_le (by omega), List.append_nil]
  refine ⟨?_, by simp [h2]; omega, e2.symm, ?_⟩
  · rw [e1, absN, absN_append _ _ _ hle, ← h1, List.drop_append_of_le_length hle, e3, List.take_of_length_le (by simp; omega)]
  · rw [e1]; exact (List.drop_of_length_le (by rw [List.length_append]; omega)).symm

/-- The last block. -/
theorem Held.last {bs : List Int} {L : List W6} {P : List Int} {h : Nat} (H : Held bs L P h) : kec bs = sq (absb L (P.take h ++ tailB h)) := by
  obtain ⟨h1, h2, h3, h4⟩ := H
  have hle : 136 * (bs.length / 136) ≤ bs.length := by omega
  have hr : bs.length % 136 < 136 := Nat.mod_lt _ (by omega)
  have ht := tailB_len hr
  rw [kec, absN, filled, absN_append _ _ _ hle, ← h1, List.drop_append_of_le_length hle, ← h4, ← h3, List.take_of_length_le]
  rw [← h3] at ht
  rw [List.length_append, List.length_take, ht]; omega

theorem zrep_set {n : Nat} (h : 0 < n) (v : Int) : (List.replicate n (0 : Int)).set 0 v = v :: List.replicate (n - 1) 0 := by
  obtain ⟨m, rfl⟩ : ∃ m, n = m + 1 := ⟨n - 1, by omega⟩
  rfl
/-- The program's last block: the rest cleared, the first byte behind the text, the last bit. -/
theorem last_block {P : List Int} {h : Nat} (hp : P.length = 136) (hh : h < 136) (v : Int) (hv : v = if h = 135 then 129 else 128) :
    ((P.take h ++ List.replicate (136 - h) 0).set h 1).set 135 v = P.take h ++ tailB h := by
  have hl : (P.take h).length = h := by rw [List.length_take]; omega
  rw [List.set_append_right _ _ (by omega), hl, Nat.sub_self, zrep_set (by omega), List.set_append_right _ _ (by omega), hl, show 136 - h - 1 = 135 - h by omega]
  congr 1
  unfold tailB
  split
  · rename_i e; subst e; simp [hv]
  · rename_i e
    rw [hv, if_neg e]
    obtain ⟨m, hm⟩ : ∃ m, 135 - h = m + 1 := ⟨134 - h, by omega⟩
    rw [hm, show 134 - h = m by omega, List.replicate_succ', List.set_cons_succ, List.set_append_right _ _ (by simp)]
    simp

theorem b2w_cv {x : Int} (h : 0 ≤ x ∧ x < 256) : (b2w x).toNat = x.toNat := by
  rw [b2w, BitVec.toNat_ofNat]; omega
theorem b2w_int {x : Int} (h : 0 ≤ x ∧ x < 256) : x = ((b2w x).toNat : Int) := by rw [b2w_cv h]; omega

def outAt (L : List W6) : Nat → List Int
  | 0 => List.replicate 32 0
  | n + 1 => (outAt L n).set n (sqV L n)
theorem outAt_eq (L : List W6) : ∀ n, n ≤ 32 → outAt L n = (List.range n).map (sqV L) ++ List.replicate (32 - n) 0
  | 0, _ => rfl
  | n + 1, h => by
    rw [outAt, outAt_eq L n (by omega), List.set_append_right _ _ (by simp), List.length_map, List.length_range, Nat.sub_self, zrep_set (by omega), List.range_succ, List.map_append, List.append_assoc]
    rfl
theorem outAt_sq (L : List W6) : outAt L 32 = sq L := by
  rw [outAt_eq L 32 (by omega)]; simp [sq]
theorem outAt_len (L : List W6) : ∀ n, (outAt L n).length = 32
  | 0 => rfl
  | n + 1 => by rw [outAt, List.length_set, outAt_len L n]
theorem filled_len (bs : List Int) : (filled bs).length = 136 * (bs.length / 136 + 1) := by
  rw [filled, List.length_append, tailB_len (Nat.mod_lt _ (by omega))]; omega
theorem absN_step (bs : List Int) (n : Nat) : absN bs (n + 1) = perm (xorIn (absN bs n) ((bs.drop (136 * n)).take 136) 136) := rfl

end Go.Eng
