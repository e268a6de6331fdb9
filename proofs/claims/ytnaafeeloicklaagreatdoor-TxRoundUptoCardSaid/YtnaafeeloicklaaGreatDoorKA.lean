/-
  Keccak-f[1600] and the sponge as plain functions on lists of words; the program's round is the reference's. No program in sight.
  bits.RotateLeft64, waybillref02.Rot, at; keccak.numbers, ways. Condition: turns below 64.
  keccak.Permute. No condition.
  The sponge as a plain function on bytes: what is taken in, block by block; the last block. No program in sight.
  Texts among texts; a sponge's last block. No program in sight.
  keccak.digest, Sum: the sponge's methods walked in place. Condition: at most 2^30 bytes.
  keccak.Sum. Condition: at most 2^30 bytes.
-/
import Derived.Test.YtnaafeeloicklaaGreatDoorEngS
import Derived.Test.YtnaafeeloicklaaGreatDoorEngP
import Derived.Test.YtnaafeeloicklaaGreatDoorUA
namespace Go.Eng
open Go
set_option maxRecDepth 100000
set_option linter.unusedVariables false
set_option maxHeartbeats 8000000

abbrev W6 := BitVec 64

/-- A word in a cell. -/
def wv (x : W6) : Value := .int .u64 (x.toNat : Int)
def wvs (l : List W6) : List Value := l.map wv

theorem ofInt_toNat (a : W6) : BitVec.ofInt 64 (a.toNat : Int) = a := by
  apply BitVec.eq_of_toNat_eq
  rw [BitVec.toNat_ofInt]
  have := a.isLt
  omega
theorem wrap_toNat (a : W6) : IntKind.u64.wrap (a.toNat : Int) = (a.toNat : Int) := by
  rw [u64Wrap]; have := a.isLt; omega
theorem kxor (a b : W6) : intB .xor .u64 (a.toNat : Int) (b.toNat : Int) = ((a ^^^ b).toNat : Int) := by
  show IntKind.u64.wrap ((BitVec.ofInt 64 (a.toNat : Int) ^^^ BitVec.ofInt 64 (b.toNat : Int)).toNat : Int) = _
  rw [ofInt_toNat, ofInt_toNat, wrap_toNat]
theorem kand (a b : W6) : intB .and .u64 (a.toNat : Int) (b.toNat : Int) = ((a &&& b).toNat : Int) := by
  show IntKind.u64.wrap ((BitVec.ofInt 64 (a.toNat : Int) &&& BitVec.ofInt 64 (b.toNat : Int)).toNat : Int) = _
  rw [ofInt_toNat, ofInt_toNat, wrap_toNat]
theorem kor (a b : W6) : intB .or .u64 (a.toNat : Int) (b.toNat : Int) = ((a ||| b).toNat : Int) := by
  show IntKind.u64.wrap ((BitVec.ofInt 64 (a.toNat : Int) ||| BitVec.ofInt 64 (b.toNat : Int)).toNat : Int) = _
  rw [ofInt_toNat, ofInt_toNat, wrap_toNat]
theorem knot (a : W6) : intU .xor .u64 (a.toNat : Int) = ((~~~a).toNat : Int) := by
  have e : intU .xor .u64 (a.toNat : Int) = IntKind.u64.wrap ((BitVec.ofInt 64 18446744073709551615 ^^^ BitVec.ofInt 64 (a.toNat : Int)).toNat : Int) := rfl
  rw [e, ofInt_toNat, wrap_toNat]
  have : BitVec.ofInt 64 18446744073709551615 = BitVec.allOnes 64 := by decide
  rw [this, BitVec.allOnes_xor]
theorem kshl (a : W6) {s : Nat} (hs : s ≤ 64) : intB .shl .u64 (a.toNat : Int) (s : Int) = ((a <<< s).toNat : Int) := by
  simp only [intB, Int.toNat_natCast]
  rw [show min s IntKind.u64.bits = s from Nat.min_eq_left hs, u64Wrap, BitVec.toNat_shiftLeft, Nat.shiftLeft_eq]
  simp
theorem kshr (a : W6) {s : Nat} (hs : s ≤ 64) : intB .shr .u64 (a.toNat : Int) (s : Int) = ((a >>> s).toNat : Int) := by
  simp only [intB, Int.toNat_natCast]
  rw [show min s IntKind.u64.bits = s from Nat.min_eq_left hs, BitVec.toNat_ushiftRight, Nat.shiftRight_eq_div_pow]
  rw [Int.fdiv_eq_ediv_of_nonneg _ (by exact Int.pow_nonneg (by omega))]
  simp

def rot (v : W6) (s : Nat) : W6 := (v <<< s) ||| (v >>> (64 - s))
theorem rot0 (v : W6) : rot v 0 = v := by
  apply BitVec.eq_of_toNat_eq
  have h : v.toNat >>> 64 = 0 := by rw [Nat.shiftRight_eq_div_pow]; exact Nat.div_eq_of_lt v.isLt
  simp [rot, h]

def g (l : List W6) (i : Nat) : W6 := l.getD i 0
theorem g_get {l : List W6} {i : Nat} (h : i < l.length) : (wvs l)[i]? = some (wv (g l i)) := by
  rw [wvs, List.getElem?_map, g, List.getD_eq_getElem?_getD, List.getElem?_eq_getElem h]; rfl
theorem wvs_set (l : List W6) (i : Nat) (x : W6) : (wvs l).set i (wv x) = wvs (l.set i x) := by
  rw [wvs, wvs, List.map_set]
theorem wvs_len (l : List W6) : (wvs l).length = l.length := by rw [wvs, List.length_map]

def turs : List Nat := [0, 1, 62, 28, 27, 36, 44, 6, 55, 20, 3, 10, 43, 25, 39, 41, 45, 15, 21, 8, 18, 2, 61, 56, 14]
def tur (n : Nat) : Nat := turs.getD n 0
/-- Where a lane goes. -/
def goe (n : Nat) : Nat := n / 5 + 5 * ((2 * (n % 5) + 3 * (n / 5)) % 5)
def goes : List Nat := (List.range 25).map goe
def nums : List W6 := [0x0000000000000001, 0x0000000000008082, 0x800000000000808A, 0x8000000080008000, 0x000000000000808B, 0x0000000080000001, 0x8000000080008081, 0x8000000000008009, 0x000000000000008A, 0x0000000000000088, 0x0000000080008009, 0x000000008000000A,
  0x000000008000808B, 0x800000000000008B, 0x8000000000008089, 0x8000000000008003, 0x8000000000008002, 0x8000000000000080, 0x000000000000800A, 0x800000008000000A, 0x8000000080008081, 0x8000000000008080, 0x0000000080000001, 0x8000000080008008]

/-! ### The program's round -/
def sumsAt (L : List W6) : Nat → List W6
  | 0 => List.replicate 5 0
  | n + 1 => (sumsAt L n).set (n % 5) (g (sumsAt L n) (n % 5) ^^^ g L n)
def turnV (L S : List W6) (n : Nat) : W6 := rot (g L n ^^^ (g S ((n + 4) % 5) ^^^ rot (g S ((n + 1) % 5)) 1)) (tur n)
def turnAt (L S : List W6) : Nat → List W6
  | 0 => List.replicate 25 0
  | n + 1 => (turnAt L S n).set (goe n) (turnV L S n)
def chiV (T : List W6) (n : Nat) : W6 := g T n ^^^ (~~~(g T (5 * (n / 5) + (n % 5 + 1) % 5)) &&& g T (5 * (n / 5) + (n % 5 + 2) % 5))
def chiAt (L T : List W6) : Nat → List W6
  | 0 => L
  | n + 1 => (chiAt L T n).set n (chiV T n)
def rnd (L : List W6) (k : W6) : List W6 :=
  let C := chiAt L (turnAt L (sumsAt L 25) 25) 25
  C.set 0 (g C 0 ^^^ k)
def permAt (L : List W6) : Nat → List W6
  | 0 => L
  | n + 1 => rnd (permAt L n) (nums.getD n 0)
def perm (L : List W6) : List W6 := permAt L 24

theorem sumsAt_len (L : List W6) : ∀ n, (sumsAt L n).length = 5
  | 0 => rfl
  | n + 1 => by rw [sumsAt, List.length_set, sumsAt_len L n]
theorem turnAt_len (L S : List W6) : ∀ n, (turnAt L S n).length = 25
  | 0 => rfl
  | n + 1 => by rw [turnAt, List.length_set, turnAt_len L S n]
theorem chiAt_len (L T : List W6) : ∀ n, (chiAt L T n).length = L.length
  | 0 => rfl
  | n + 1 => by rw [chiAt, List.length_set, chiAt_len L T n]
theorem rnd_len (L : List W6) (k : W6) : (rnd L k).length = L.length := by
  unfold rnd
  rw [List.length_set, chiAt_len]
theorem permAt_len (L : List W6) : ∀ n, (permAt L n).length = L.length
  | 0 => rfl
  | n + 1 => by rw [permAt, rnd_len, permAt_len L n]
theorem perm_len (L : List W6) : (perm L).length = L.length := permAt_len L 24

/-! ### The reference's round -/
def sumR (L : List W6) (x : Nat) : W6 := g L x ^^^ g L (x + 5) ^^^ g L (x + 10) ^^^ g L (x + 15) ^^^ g L (x + 20)
def sumsR (L : List W6) : Nat → List W6
  | 0 => List.replicate 5 0
  | n + 1 => (sumsR L n).set n (sumR L n)
def colV (L C : List W6) (n : Nat) : W6 := g L (n / 5 + 5 * (n % 5)) ^^^ g C ((n / 5 + 4) % 5) ^^^ rot (g C ((n / 5 + 1) % 5)) 1
def colAt (L C : List W6) : Nat → List W6
  | 0 => L
  | n + 1 => (colAt L C n).set (n / 5 + 5 * (n % 5)) (colV L C n)
def colR (L : List W6) : List W6 := colAt L (sumsR L 5) 25
def movV (A : List W6) (n : Nat) : W6 := rot (g A (n / 5 + 5 * (n % 5))) (tur (n / 5 + 5 * (n % 5)))
def movAt (A : List W6) : Nat → List W6
  | 0 => List.replicate 25 0
  | n + 1 => (movAt A n).set (n % 5 + 5 * ((2 * (n / 5) + 3 * (n % 5)) % 5)) (movV A n)
def movR (A : List W6) : List W6 := movAt A 25
def mixV (A : List W6) (n : Nat) : W6 := g A (n / 5 + 5 * (n % 5)) ^^^ (~~~(g A ((n / 5 + 1) % 5 + 5 * (n % 5))) &&& g A ((n / 5 + 2) % 5 + 5 * (n % 5)))
def mixAt (A : List W6) : Nat → List W6
  | 0 => List.replicate 25 0
  | n + 1 => (mixAt A n).set (n / 5 + 5 * (n % 5)) (mixV A n)
def mixR (A : List W6) : List W6 := mixAt A 25
theorem colAt_len (L C : List W6) : ∀ n, (colAt L C n).length = L.length
  | 0 => rfl
  | n + 1 => by rw [colAt, List.length_set, colAt_len L C n]
theorem sumsR_len (L : List W6) : ∀ n, (sumsR L n).length = 5
  | 0 => rfl
  | n + 1 => by rw [sumsR, List.length_set, sumsR_len L n]
theorem movAt_len (A : List W6) : ∀ n, (movAt A n).length = 25
  | 0 => rfl
  | n + 1 => by rw [movAt, List.length_set, movAt_len A n]
theorem mixAt_len (A : List W6) : ∀ n, (mixAt A n).length = 25
  | 0 => rfl
  | n + 1 => by rw [mixAt, List.length_set, mixAt_len A n]

/-! ### Entries of lists that are written over, each place once -/
def setN (ix : Nat → Nat) (f : Nat → W6) (M : List W6) : Nat → List W6
  | 0 => M
  | n + 1 => (setN ix f M n).set (ix n) (f n)
theorem setN_len (ix : Nat → Nat) (f : Nat → W6) (M : List W6) : ∀ n, (setN ix f M n).length = M.length
  | 0 => rfl
  | n + 1 => by rw [setN, List.length_set, setN_len ix f M n]
theorem setN_get {ix : Nat → Nat} {f : Nat → W6} {M : List W6} : ∀ {n j : Nat}, (∀ a b, a < n → b < n → ix a = ix b → a = b) → j < n → ix j < M.length → g (setN ix f M n) (ix j) = f j
  | n + 1, j, hi, hj, hl => by
    rw [setN, g, List.getD_eq_getElem?_getD, List.getElem?_set]
    by_cases e : j = n
    · subst e
      rw [if_pos rfl, if_pos (by rw [setN_len]; exact hl)]; rfl
    · rw [if_neg (fun h => e (hi j n hj (by omega) h.symm)), ← List.getD_eq_getElem?_getD]
      exact setN_get (n := n) (fun a b ha hb => hi a b (by omega) (by omega)) (by omega) hl
theorem turnAt_setN (L S : List W6) : ∀ n, turnAt L S n = setN goe (turnV L S) (List.replicate 25 0) n
  | 0 => rfl
  | n + 1 => by rw [turnAt, setN, turnAt_setN L S n]
theorem chiAt_setN (L T : List W6) : ∀ n, chiAt L T n = setN id (chiV T) L n
  | 0 => rfl
  | n + 1 => by rw [chiAt, setN, chiAt_setN L T n]; rfl
def ixT (n : Nat) : Nat := n / 5 + 5 * (n % 5)
def ixM (n : Nat) : Nat := n % 5 + 5 * ((2 * (n / 5) + 3 * (n % 5)) % 5)
theorem colAt_setN (L C : List W6) : ∀ n, colAt L C n = setN ixT (colV L C) L n
  | 0 => rfl
  | n + 1 => by rw [colAt, setN, colAt_setN L C n]; rfl
theorem movAt_setN (A : List W6) : ∀ n, movAt A n = setN ixM (movV A) (List.replicate 25 0) n
  | 0 => rfl
  | n + 1 => by rw [movAt, setN, movAt_setN A n]; rfl
theorem mixAt_setN (A : List W6) : ∀ n, mixAt A n = setN ixT (mixV A) (List.replicate 25 0) n
  | 0 => rfl
  | n + 1 => by rw [mixAt, setN, mixAt_setN A n]; rfl
theorem goe_inj : ∀ a, a < 25 → ∀ b, b < 25 → goe a = goe b → a = b := by decide
theorem ixT_inj : ∀ a, a < 25 → ∀ b, b < 25 → ixT a = ixT b → a = b := by decide
theorem ixM_inj : ∀ a, a < 25 → ∀ b, b < 25 → ixM a = ixM b → a = b := by decide
theorem ixT_all : ∀ i, i < 25 → ∃ n, n < 25 ∧ ixT n = i := by decide
theorem ixM_all : ∀ i, i < 25 → ∃ n, n < 25 ∧ ixM n = i := by decide
theorem ixT_lt : ∀ n, n < 25 → ixT n < 25 := by decide
theorem ixM_lt : ∀ n, n < 25 → ixM n < 25 := by decide
theorem goe_ixT : ∀ n, n < 25 → goe (ixT n) = ixM n := by decide
theorem ext_g {A B : List W6} (ha : A.length = 25) (hb : B.length = 25) (h : ∀ i, i < 25 → g A i = g B i) : A = B := by
  refine List.ext_getElem (by omega) fun i h1 h2 => ?_
  have := h i (by omega)
  rw [g, g, List.getD_eq_getElem?_getD, List.getD_eq_getElem?_getD, List.getElem?_eq_getElem h1, List.getElem?_eq_getElem h2] at this
  exact this

theorem sums_same (L : List W6) : sumsAt L 25 = sumsR L 5 := by
  have h0 : sumsAt L 0 = [0, 0, 0, 0, 0] := rfl
  have h1 : sumsAt L 1 = [0 ^^^ g L 0, 0, 0, 0, 0] := by rw [show (1 : Nat) = 0 + 1 from rfl, sumsAt, h0]; rfl
  have h2 : sumsAt L 2 = [0 ^^^ g L 0, 0 ^^^ g L 1, 0, 0, 0] := by rw [show (2 : Nat) = 1 + 1 from rfl, sumsAt, h1]; rfl
  have h3 : sumsAt L 3 = [0 ^^^ g L 0, 0 ^^^ g L 1, 0 ^^^ g L 2, 0, 0] := by rw [show (3 : Nat) = 2 + 1 from rfl, sumsAt, h2]; rfl
  have h4 : sumsAt L 4 = [0 ^^^ g L 0, 0 ^^^ g L 1, 0 ^^^ g L 2, 0 ^^^ g L 3, 0] := by rw [show (4 : Nat) = 3 + 1 from rfl, sumsAt, h3]; rfl
  have h5 : sumsAt L 5 = [0 ^^^ g L 0, 0 ^^^ g L 1, 0 ^^^ g L 2, 0 ^^^ g L 3, 0 ^^^ g L 4] := by rw [show (5 : Nat) = 4 + 1 from rfl, sumsAt, h4]; rfl
  have h6 : sumsAt L 6 = [0 ^^^ g L 0 ^^^ g L 5, 0 ^^^ g L 1, 0 ^^^ g L 2, 0 ^^^ g L 3, 0 ^^^ g L 4] := by rw [show (6 : Nat) = 5 + 1 from rfl, sumsAt, h5]; rfl
  have h7 : sumsAt L 7 = [0 ^^^ g L 0 ^^^ g L 5, 0 ^^^ g L 1 ^^^ g L 6, 0 ^^^ g L 2, 0 ^^^ g L 3, 0 ^^^ g L 4] := by rw [show (7 : Nat) = 6 + 1 from rfl, sumsAt, h6]; rfl
  have h8 : sumsAt L 8 = [0 ^^^ g L 0 ^^^ g L 5, 0 ^^^ g L 1 ^^^ g L 6, 0 ^^^ g L 2 ^^^ g L 7, 0 ^^^ g L 3, 0 ^^^ g L 4] := by rw [show (8 : Nat) = 7 + 1 from rfl, sumsAt, h7]; rfl
  have h9 : sumsAt L 9 = [0 ^^^ g L 0 ^^^ g L 5, 0 ^^^ g L 1 ^^^ g L 6, 0 ^^^ g L 2 ^^^ g L 7, 0 ^^^ g L 3 ^^^ g L 8, 0 ^^^ g L 4] := by rw [show (9 : Nat) = 8 + 1 from rfl, sumsAt, h8]; rfl
  have h10 : sumsAt L 10 = [0 ^^^ g L 0 ^^^ g L 5, 0 ^^^ g L 1 ^^^ g L 6, 0 ^^^ g L 2 ^^^ g L 7, 0 ^^^ g L 3 ^^^ g L 8, 0 ^^^ g L 4 ^^^ g L 9] := by rw [show (10 : Nat) = 9 + 1 from rfl, sumsAt, h9]; rfl
  have h11 : sumsAt L 11 = [0 ^^^ g L 0 ^^^ g L 5 ^^^ g L 10, 0 ^^^ g L 1 ^^^ g L 6, 0 ^^^ g L 2 ^^^ g L 7, 0 ^^^ g L 3 ^^^ g L 8, 0 ^^^ g L 4 ^^^ g L 9] := by rw [show (11 : Nat) = 10 + 1 from rfl, sumsAt, h10]; rfl
  have h12 : sumsAt L 12 = [0 ^^^ g L 0 ^^^ g L 5 ^^^ g L 10, 0 ^^^ g L 1 ^^^ g L 6 ^^^ g L 11, 0 ^^^ g L 2 ^^^ g L 7, 0 ^^^ g L 3 ^^^ g L 8, 0 ^^^ g L 4 ^^^ g L 9] := by rw [show (12 : Nat) = 11 + 1 from rfl, sumsAt, h11]; rfl
  have h13 : sumsAt L 13 = [0 ^^^ g L 0 ^^^ g L 5 ^^^ g L 10, 0 ^^^ g L 1 ^^^ g L 6 ^^^ g L 11, 0 ^^^ g L 2 ^^^ g L 7 ^^^ g L 12, 0 ^^^ g L 3 ^^^ g L 8, 0 ^^^ g L 4 ^^^ g L 9] := by rw [show (13 : Nat) = 12 + 1 from rfl, sumsAt, h12]; rfl
  have h14 : sumsAt L 14 = [0 ^^^ g L 0 ^^^ g L 5 ^^^ g L 10, 0 ^^^ g L 1 ^^^ g L 6 ^^^ g L 11, 0 ^^^ g L 2 ^^^ g L 7 ^^^ g L 12, 0 ^^^ g L 3 ^^^ g L 8 ^^^ g L 13, 0 ^^^ g L 4 ^^^ g L 9] := by rw [show (14 : Nat) = 13 + 1 from rfl, sumsAt, h13]; rfl
  have h15 : sumsAt L 15 = [0 ^^^ g L 0 ^^^ g L 5 ^^^ g L 10, 0 ^^^ g L 1 ^^^ g L 6 ^^^ g L 11, 0 ^^^ g L 2 ^^^ g L 7 ^^^ g L 12, 0 ^^^ g L 3 ^^^ g L 8 ^^^ g L 13, 0 ^^^ g L 4 ^^^ g L 9 ^^^ g L 14] := by rw [show (15 : Nat) = 14 + 1 from rfl, sumsAt, h14]; rfl
  have h16 : sumsAt L 16 = [0 ^^^ g L 0 ^^^ g L 5 ^^^ g L 10 ^^^ g L 15, 0 ^^^ g L 1 ^^^ g L 6 ^^^ g L 11, 0 ^^^ g L 2 ^^^ g L 7 ^^^ g L 12, 0 ^^^ g L 3 ^^^ g L 8 ^^^ g L 13, 0 ^^^ g L 4 ^^^ g L 9 ^^^ g L 14] := by rw [show (16 : Nat) = 15 + 1 from rfl, sumsAt, h15]; rfl
  have h17 : sumsAt L 17 = [0 ^^^ g L 0 ^^^ g L 5 ^^^ g L 10 ^^^ g L 15, 0 ^^^ g L 1 ^^^ g L 6 ^^^ g L 11 ^^^ g L 16, 0 ^^^ g L 2 ^^^ g L 7 ^^^ g L 12, 0 ^^^ g L 3 ^^^ g L 8 ^^^ g L 13, 0 ^^^ g L 4 ^^^ g L 9 ^^^ g L 14] := by rw [show (17 : Nat) = 16 + 1 from rfl, sumsAt, h16]; rfl
  have h18 : sumsAt L 18 = [0 ^^^ g L 0 ^^^ g L 5 ^^^ g L 10 ^^^ g L 15, 0 ^^^ g L 1 ^^^ g L 6 ^^^ g L 11 ^^^ g L 16, 0 ^^^ g L 2 ^^^ g L 7 ^^^ g L 12 ^^^ g L 17, 0 ^^^ g L 3 ^^^ g L 8 ^^^ g L 13, 0 ^^^ g L 4 ^^^ g L 9 ^^^ g L 14] := by rw [show (18 : Nat) = 17 + 1 from rfl, sumsAt, h17]; rfl
  have h19 : sumsAt L 19 = [0 ^^^ g L 0 ^^^ g L 5 ^^^ g L 10 ^^^ g L 15, 0 ^^^ g L 1 ^^^ g L 6 ^^^ g L 11 ^^^ g L 16, 0 ^^^ g L 2 ^^^ g L 7 ^^^ g L 12 ^^^ g L 17, 0 ^^^ g L 3 ^^^ g L 8 ^^^ g L 13 ^^^ g L 18, 0 ^^^ g L 4 ^^^ g L 9 ^^^ g L 14] := by rw [show (19 : Nat) = 18 + 1 from rfl, sumsAt, h18]; rfl
  have h20 : sumsAt L 20 = [0 ^^^ g L 0 ^^^ g L 5 ^^^ g L 10 ^^^ g L 15, 0 ^^^ g L 1 ^^^ g L 6 ^^^ g L 11 ^^^ g L 16, 0 ^^^ g L 2 ^^^ g L 7 ^^^ g L 12 ^^^ g L 17, 0 ^^^ g L 3 ^^^ g L 8 ^^^ g L 13 ^^^ g L 18, 0 ^^^ g L 4 ^^^ g L 9 ^^^ g L 14 ^^^ g L 19] := by rw [show (20 : Nat) = 19 + 1 from rfl, sumsAt, h19]; rfl
  have h21 : sumsAt L 21 = [0 ^^^ g L 0 ^^^ g L 5 ^^^ g L 10 ^^^ g L 15 ^^^ g L 20, 0 ^^^ g L 1 ^^^ g L 6 ^^^ g L 11 ^^^ g L 16, 0 ^^^ g L 2 ^^^ g L 7 ^^^ g L 12 ^^^ g L 17, 0 ^^^ g L 3 ^^^ g L 8 ^^^ g L 13 ^^^ g L 18, 0 ^^^ g L 4 ^^^ g L 9 ^^^ g L 14 ^^^ g L 19] := by rw [show (21 : Nat) = 20 + 1 from rfl, sumsAt, h20]; rfl
  have h22 : sumsAt L 22 = [0 ^^^ g L 0 ^^^ g L 5 ^^^ g L 10 ^^^ g L 15 ^^^ g L 20, 0 ^^^ g L 1 ^^^ g L 6 ^^^ g L 11 ^^^ g L 16 ^^^ g L 21, 0 ^^^ g L 2 ^^^ g L 7 ^^^ g L 12 ^^^ g L 17, 0 ^^^ g L 3 ^^^ g L 8 ^^^ g L 13 ^^^ g L 18, 0 ^^^ g L 4 ^^^ g L 9 ^^^ g L 14 ^^^ g L 19] := by rw [show (22 : Nat) = 21 + 1 from rfl, sumsAt, h21]; rfl
  have h23 : sumsAt L 23 = [0 ^^^ g L 0 ^^^ g L 5 ^^^ g L 10 ^^^ g L 15 ^^^ g L 20, 0 ^^^ g L 1 ^^^ g L 6 ^^^ g L 11 ^^^ g L 16 ^^^ g L 21, 0 ^^^ g L 2 ^^^ g L 7 ^^^ g L 12 ^^^ g L 17 ^^^ g L 22, 0 ^^^ g L 3 ^^^ g L 8 ^^^ g L 13 ^^^ g L 18, 0 ^^^ g L 4 ^^^ g L 9 ^^^ g L 14 ^^^ g L 19] := by rw [show (23 : Nat) = 22 + 1 from rfl, sumsAt, h22]; rfl
  have h24 : sumsAt L 24 = [0 ^^^ g L 0 ^^^ g L 5 ^^^ g L 10 ^^^ g L 15 ^^^ g L 20, 0 ^^^ g L 1 ^^^ g L 6 ^^^ g L 11 ^^^ g L 16 ^^^ g L 21, 0 ^^^ g L 2 ^^^ g L 7 ^^^ g L 12 ^^^ g L 17 ^^^ g L 22, 0 ^^^ g L 3 ^^^ g L 8 ^^^ g L 13 ^^^ g L 18 ^^^ g L 23, 0 ^^^ g L 4 ^^^ g L 9 ^^^ g L 14 ^^^ g L 19] := by rw [show (24 : Nat) = 23 + 1 from rfl, sumsAt, h23]; rfl
  have h25 : sumsAt L 25 = [0 ^^^ g L 0 ^^^ g L 5 ^^^ g L 10 ^^^ g L 15 ^^^ g L 20, 0 ^^^ g L 1 ^^^ g L 6 ^^^ g L 11 ^^^ g L 16 ^^^ g L 21, 0 ^^^ g L 2 ^^^ g L 7 ^^^ g L 12 ^^^ g L 17 ^^^ g L 22, 0 ^^^ g L 3 ^^^ g L 8 ^^^ g L 13 ^^^ g L 18 ^^^ g L 23, 0 ^^^ g L 4 ^^^ g L 9 ^^^ g L 14 ^^^ g L 19 ^^^ g L 24] := by rw [show (25 : Nat) = 24 + 1 from rfl, sumsAt, h24]; rfl
  rw [h25]
  simp only [BitVec.ofNat_eq_ofNat, BitVec.zero_xor]
  rfl

theorem moved_same {L C : List W6} (h : L.length = 25) (hc : C.length = 5) : turnAt L C 25 = movR (colAt L C 25) := by
  refine ext_g (turnAt_len L C 25) (movAt_len _ 25) fun i hi => ?_
  obtain ⟨n, hn, rfl⟩ := ixM_all i hi
  have e1 : g (turnAt L C 25) (ixM n) = turnV L C (ixT n) := by
    rw [turnAt_setN, ← goe_ixT n hn]
    exact setN_get (fun a b ha hb => goe_inj a ha b hb) (ixT_lt n hn) (by rw [goe_ixT n hn, List.length_replicate]; exact hi)
  have e2 : g (movR (colAt L C 25)) (ixM n) = movV (colAt L C 25) n := by
    rw [movR, movAt_setN]
    exact setN_get (fun a b ha hb => ixM_inj a ha b hb) hn (by rw [List.length_replicate]; exact hi)
  have e3 : g (colAt L C 25) (ixT n) = colV L C n := by
    rw [colAt_setN]
    exact setN_get (fun a b ha hb => ixT_inj a ha b hb) hn (by rw [h]; exact ixT_lt n hn)
  rw [e1, e2, movV, show n / 5 + 5 * (n % 5) = ixT n from rfl, e3, turnV, colV, ← BitVec.xor_assoc]
  rw [show n / 5 + 5 * (n % 5) = ixT n from rfl, show (ixT n + 4) % 5 = (n / 5 + 4) % 5 by unfold ixT; omega, show (ixT n + 1) % 5 = (n / 5 + 1) % 5 by unfold ixT; omega]

theorem mixed_same {L T : List W6} (h : L.length = 25) : chiAt L T 25 = mixR T := by
  refine ext_g (by rw [chiAt_len, h]) (mixAt_len _ 25) fun i hi => ?_
  obtain ⟨n, hn, rfl⟩ := ixT_all i hi
  have e1 : g (chiAt L T 25) (ixT n) = chiV T (ixT n) := by
    rw [chiAt_setN]
    exact setN_get (ix := id) (fun a b _ _ e => e) hi (by rw [h]; exact hi)
  have e2 : g (mixR T) (ixT n) = mixV T n := by
    rw [mixR, mixAt_setN]
    exact setN_get (fun a b ha hb => ixT_inj a ha b hb) hn (by rw [List.length_replicate]; exact hi)
  rw [e1, e2, chiV, mixV, show n / 5 + 5 * (n % 5) = ixT n from rfl]
  rw [show 5 * (ixT n / 5) + (ixT n % 5 + 1) % 5 = (n / 5 + 1) % 5 + 5 * (n % 5) by unfold ixT; omega, show 5 * (ixT n / 5) + (ixT n % 5 + 2) % 5 = (n / 5 + 2) % 5 + 5 * (n % 5) by unfold ixT; omega]

def rndR (L : List W6) (k : W6) : List W6 := let C := mixR (movR (colR L)); C.set 0 (g C 0 ^^^ k)
theorem rnd_same {L : List W6} (h : L.length = 25) (k : W6) : rnd L k = rndR L k := by
  unfold rnd rndR colR
  rw [sums_same, moved_same h (sumsR_len L 5), mixed_same h]

end Go.Eng
namespace Go.Eng
open Go Go.Proofs
set_option maxRecDepth 100000
set_option maxHeartbeats 4000000
set_option linter.unusedVariables false

theorem land63 {s : Nat} (h : s < 64) : intB .and .u64 (s : Int) 63 = (s : Int) := by
  have : ∀ s : Nat, s < 64 → intB .and .u64 (s : Int) 63 = (s : Int) := by decide
  exact this s h

theorem rotl_sound : Sound Tryz.prog 166 fun args k => ∃ (v : W6) (s : Nat), args = [.s (.v (wv v)), .s (.v (.int .i64 (s : Int)))] ∧ s < 64 ∧ k [.s (.v (wv (rot v s)))] := by
  refine Sound.of_body tt_ok ent_ok Tryz.func166 rfl ?_
  rintro ar har Γ hΓ args k ⟨v, s, hargs, hs, hk⟩
  obtain ⟨a, ha⟩ : ∃ a : Int, a = (v.toNat : Int) := ⟨_, rfl⟩
  obtain ⟨y, hy⟩ : ∃ a : Int, a = (s : Int) := ⟨_, rfl⟩
  have e1 : ar.ib .and .u64 (ar.cv .u64 y) 63 = (s : Int) := by rw [cvU64 har (by omega), iIs har, hy, land63 hs]
  have e2 : ar.ib .sub .u64 64 (ar.ib .and .u64 (ar.cv .u64 y) 63) = ((64 - s : Nat) : Int) := by
    rw [e1]; exact uSub har (a := 64) (by omega) (by omega)
  have e3 : ar.ib .or .u64 (ar.ib .shl .u64 a (ar.ib .and .u64 (ar.cv .u64 y) 63)) (ar.ib .shr .u64 a (ar.ib .sub .u64 64 (ar.ib .and .u64 (ar.cv .u64 y) 63))) = ((rot v s).toNat : Int) := by
    rw [e2, e1, iIs har, iIs har, iIs har, ha, kshl v (by omega), kshr v (by omega), kor]; rfl
  have hk : k [.s (.v (.int .u64 (ar.ib .or .u64 (ar.ib .shl .u64 a (ar.ib .and .u64 (ar.cv .u64 y) 63)) (ar.ib .shr .u64 a (ar.ib .sub .u64 64 (ar.ib .and .u64 (ar.cv .u64 y) 63))))))] := by rw [e3]; exact hk
  have s1 : 0 ≤ ar.ib .and .u64 (ar.cv .u64 y) 63 := by rw [e1]; omega
  have s2 : 0 ≤ ar.ib .sub .u64 64 (ar.ib .and .u64 (ar.cv .u64 y) 63) := by rw [e2]; omega
  unfold wv at hargs
  rw [← ha, ← hy] at hargs
  subst hargs
  conv => cbv
  exact ⟨fun _ => s1, fun _ => s2, hk⟩

theorem refRot_sound : Sound Tryz.prog 171 fun args k => ∃ (v : W6) (s : Nat), args = [.s (.v (wv v)), .s (.v (.int .i64 (s : Int)))] ∧ s < 64 ∧ k [.s (.v (wv (rot v s)))] := by
  refine Sound.of_body tt_ok ent_ok Tryz.func171 rfl ?_
  rintro ar har Γ hΓ args k ⟨v, s, hargs, hs, hk⟩
  obtain ⟨a, ha⟩ : ∃ a : Int, a = (v.toNat : Int) := ⟨_, rfl⟩
  obtain ⟨y, hy⟩ : ∃ a : Int, a = (s : Int) := ⟨_, rfl⟩
  have e1 : ar.cv .u64 y = (s : Int) := by rw [cvU64 har (by omega), hy]
  have e2 : ar.cv .u64 (ar.ib .sub .i64 64 y) = ((64 - s : Nat) : Int) := by
    rw [iSub har (by omega), cvU64 har (by omega), hy]; omega
  have e3 : ar.ib .or .u64 (ar.ib .shl .u64 a (ar.cv .u64 y)) (ar.ib .shr .u64 a (ar.cv .u64 (ar.ib .sub .i64 64 y))) = ((rot v s).toNat : Int) := by
    rw [e2, e1, iIs har, iIs har, iIs har, ha, kshl v (by omega), kshr v (by omega), kor]; rfl
  have hk1 : k [.s (.v (.int .u64 (ar.ib .or .u64 (ar.ib .shl .u64 a (ar.cv .u64 y)) (ar.ib .shr .u64 a (ar.cv .u64 (ar.ib .sub .i64 64 y))))))] := by rw [e3]; exact hk
  have hk0 : s = 0 → k [.s (.v (.int .u64 a))] := fun h => by rw [ha]; rw [h, rot0] at hk; exact hk
  have s1 : 0 ≤ ar.cv .u64 y := by rw [e1]; omega
  have s2 : 0 ≤ ar.cv .u64 (ar.ib .sub .i64 64 y) := by rw [e2]; omega
  unfold wv at hargs
  rw [← ha, ← hy] at hargs
  subst hargs
  conv => cbv
  refine ⟨fun h => ?_, fun h => ?_⟩
  · have hk := hk0 (by have := cEq har h; omega)
    conv => cbv
    exact hk
  · conv => cbv
    exact ⟨fun _ => s1, fun _ => s2, hk1⟩

theorem refAt_sound : Sound Tryz.prog 170 fun args k => ∃ (x y : Nat), args = [.s (.v (.int .i64 (x : Int))), .s (.v (.int .i64 (y : Int)))] ∧ x < 100 ∧ y < 100 ∧ k [.s (.v (.int .i64 ((x % 5 + 5 * (y % 5) : Nat) : Int)))] := by
  refine Sound.of_body tt_ok ent_ok Tryz.func170 rfl ?_
  rintro ar har Γ hΓ args k ⟨x, y, hargs, hx, hy, hk⟩
  obtain ⟨a, ha⟩ : ∃ a : Int, a = (x : Int) := ⟨_, rfl⟩
  obtain ⟨b, hb⟩ : ∃ a : Int, a = (y : Int) := ⟨_, rfl⟩
  have e1 : ar.ib .add .i64 (ar.ib .rem .i64 a 5) (ar.ib .mul .i64 5 (ar.ib .rem .i64 b 5)) = ((x % 5 + 5 * (y % 5) : Nat) : Int) := by
    rw [ha, hb, show (5 : Int) = ((5 : Nat) : Int) from rfl, iRem har, iRem har, iMul har (by omega), iAdd har (by omega)]; omega
  rw [← e1] at hk
  rw [← ha, ← hb] at hargs
  subst hargs
  conv => cbv
  exact hk

def ivs (l : List Nat) : List Value := l.map fun (n : Nat) => Value.int .i64 (n : Int)
theorem numbers_sound : Sound Tryz.prog 165 fun args k => args = [] ∧ k [.a [.r 24 (wvs nums)]] := by
  refine Sound.of_body tt_ok ent_ok Tryz.func165 rfl ?_
  rintro ar har Γ hΓ args k ⟨hargs, hk⟩
  subst hargs
  conv => cbv
  exact hk

theorem ways_sound : Sound Tryz.prog 164 fun args k => args = [] ∧ k [.a [.r 25 (ivs turs)], .a [.r 25 (ivs goes)]] := by
  refine Sound.of_body tt_ok ent_ok Tryz.func164 rfl ?_
  rintro ar har Γ hΓ args k ⟨hargs, hk⟩
  subst hargs
  conv => cbv
  refine .inl ⟨6, ?_⟩
  conv => cbv
  refine .inl ⟨6, ?_⟩
  conv => cbv
  refine .inl ⟨6, ?_⟩
  conv => cbv
  refine .inl ⟨6, ?_⟩
  conv => cbv
  refine .inl ⟨6, ?_⟩
  conv => cbv
  refine .inl ⟨6, ?_⟩
  conv => cbv
  refine ⟨Unit, fun _ => ⟨mk 29 [(0, .s (.ptr 0 0)), (1, .s (.ptr 1 0))], [.box [.r 25 (ivs turs)], .box [.r 25 (ivs goes)]]⟩, ?_, fun _ => ?_⟩
  · conv => cbv
    simp
    conv => cbv
    try simp
  · conv => cbv
    exact hk
theorem iMulL {ar : Ar} (har : ar = arS) {a b : Int} {n m : Nat} (h : a = (n : Int)) (h2 : b = (m : Int)) (hs : n * m < 1000) : ar.ib .mul .i64 a b = ((n * m : Nat) : Int) := by
  subst h; subst h2; rw [iMul har (by rw [← Int.natCast_mul]; omega)]; simp
end Go.Eng
namespace Go.Eng
open Go Go.Proofs
set_option maxRecDepth 100000
set_option maxHeartbeats 8000000
set_option linter.unusedVariables false

theorem ivs_get {l : List Nat} {i : Nat} (h : i < l.length) : (ivs l)[i]? = some (.int .i64 (l.getD i 0 : Nat)) := by
  rw [ivs, List.getElem?_map, List.getD_eq_getElem?_getD, List.getElem?_eq_getElem h]; rfl
theorem goes_get {n : Nat} (h : n < 25) : (ivs goes)[n]? = some (.int .i64 (goe n : Nat)) := by
  rw [ivs_get (by exact h)]
  have : ∀ n, n < 25 → goes.getD n 0 = goe n := by decide
  rw [this n h]
theorem turs_get {n : Nat} (h : n < 25) : (ivs turs)[n]? = some (.int .i64 (tur n : Nat)) := ivs_get (by exact h)
theorem tur_lt : ∀ n, n < 25 → tur n < 64 := by decide
theorem goe_lt : ∀ n, n < 25 → goe n < 25 := by decide
theorem iRemL {ar : Ar} (har : ar = arS) {a : Int} {n m : Nat} (h : a = (n : Int)) : ar.ib .rem .i64 a (m : Int) = ((n % m : Nat) : Int) := by rw [h]; exact iRem har
theorem iAddL {ar : Ar} (har : ar = arS) {a b : Int} {n m : Nat} (h : a = (n : Int)) (h2 : b = (m : Int)) (hs : n + m < 1000) : ar.ib .add .i64 a b = ((n + m : Nat) : Int) := by rw [iAdd har (by omega)]; omega
theorem get_at {ws : List Value} {i : Int} {n : Nat} {v : Value} (h : i = (n : Int)) (hg : ws[n]? = some v) : ws[i.toNat]? = some v := by rw [h]; simpa using hg

theorem permute_sound : Sound Tryz.prog 143 fun args k => ∃ L : List W6, args = [.a [.r 25 (wvs L)]] ∧ L.length = 25 ∧ k [.a [.r 25 (wvs (perm L))]] := by
  refine Sound.of_body tt_ok ent_ok Tryz.func143 rfl ?_
  rintro ar har Γ hΓ args k ⟨L, hargs, hL, hk⟩
  obtain ⟨X, hX⟩ : ∃ X, X = wvs L := ⟨_, rfl⟩
  obtain ⟨TU, hTU⟩ : ∃ X, X = ivs turs := ⟨_, rfl⟩
  obtain ⟨GO, hGO⟩ : ∃ X, X = ivs goes := ⟨_, rfl⟩
  obtain ⟨NU, hNU⟩ : ∃ X, X = wvs nums := ⟨_, rfl⟩
  have callW : ∀ (Γ : Ctx) (d : Nat) (k : List PR → Prop) (Q : Prop), Γ = ctx Tryz.prog d → k [.a [.r 25 TU], .a [.r 25 GO]] → Γ.g 164 [] k ∨ Q := fun Γ d k Q hΓ hk => call_by hΓ ways_sound ⟨rfl, by rw [← hTU, ← hGO]; exact hk⟩
  have callN : ∀ (Γ : Ctx) (d : Nat) (k : List PR → Prop) (Q : Prop), Γ = ctx Tryz.prog d → k [.a [.r 24 NU]] → Γ.g 165 [] k ∨ Q := fun Γ d k Q hΓ hk => call_by hΓ numbers_sound ⟨rfl, by rw [← hNU]; exact hk⟩
  rw [← hX] at hargs
  subst hargs
  conv => cbv
  refine callW _ _ _ _ hΓ ?_
  conv => cbv
  refine callN _ _ _ _ hΓ ?_
  conv => cbv
  refine .inr ⟨{ q : Nat × Int × List Value // q.1 ≤ 24 ∧ q.2.1 = q.1 ∧ q.2.2 = wvs (permAt L q.1) },
    fun q => ⟨mk 106 [(1, .s (.ptr 0 0)), (2, .s (.ptr 1 0)), (3, .s (.ptr 2 0)), (4, .s (.ptr 3 0)), (19, .a [.r 24 NU]), (20, pint q.1.2.1)], [.box [.r 25 q.1.2.2], .box [.r 25 (wvs (List.replicate 25 0))], .box [.r 25 TU], .box [.r 25 GO]]⟩,
    fun q => 24 - q.1.1, [], _, ⟨(0, 0, X), Nat.zero_le _, rfl, hX⟩, rfl, ?_, ?_⟩
  · conv => cbv
    simp
  rintro ⟨⟨p, pi, Y⟩, hq⟩
  have hp : p ≤ 24 := hq.1
  have hpi : pi = (p : Int) := hq.2.1
  have hY : Y = wvs (permAt L p) := hq.2.2
  have hPl : (permAt L p).length = 25 := by rw [permAt_len, hL]
  obtain ⟨A, hA⟩ : ∃ A, A = permAt L p := ⟨_, rfl⟩
  rw [← hA] at hY hPl
  dsimp only
  conv => cbv
  refine ⟨fun h => ?_, fun h => ?_⟩
  rotate_left
  · have g' := cNlt har (b := 24) h
    have hpe : p = 24 := by omega
    have hk : k [.a [.r 25 Y]] := by rw [hY, hA, hpe]; exact hk
    conv => cbv
    exact hk
  have hlt : p < 24 := by have := cLt har (b := 24) h; omega
  obtain ⟨NZ, hNZ⟩ : ∃ z : Int, z = ((nums.getD p 0).toNat : Int) := ⟨_, rfl⟩
  have hnu : NU[pi.toNat]? = some (.int .u64 NZ) := get_at hpi (by rw [hNU, hNZ]; exact g_get (l := nums) (i := p) (by exact hlt))
  conv => cbv
  refine ⟨_, fun _ => ⟨by omega, hnu⟩, ?_⟩
  conv => cbv
  refine .inr ⟨{ q : Nat × Int × List Value // q.1 ≤ 25 ∧ q.2.1 = q.1 ∧ q.2.2 = wvs (sumsAt A q.1) },
    fun q => ⟨mk 106 [(1, .s (.ptr 0 0)), (2, .s (.ptr 1 0)), (3, .s (.ptr 2 0)), (4, .s (.ptr 3 0)), (19, .a [.r 24 NU]), (20, pint pi), (6, .s (.p (.v (.int .u64 NZ)))), (7, .s (.ptr 4 0)), (23, .a [.r 25 Y]), (24, pint q.1.2.1)], [.box [.r 25 Y], .box [.r 25 (wvs (List.replicate 25 0))], .box [.r 25 TU], .box [.r 25 GO], .box [.r 5 q.1.2.2]]⟩,
    fun q => 25 - q.1.1, [], _, ⟨(0, 0, wvs (List.replicate 5 0)), Nat.zero_le _, rfl, rfl⟩, rfl, ?_, ?_⟩
  · conv => cbv
    simp
  rintro ⟨⟨r, ri, S⟩, hq⟩
  have hr : r ≤ 25 := hq.1
  have hri : ri = (r : Int) := hq.2.1
  have hS : S = wvs (sumsAt A r) := hq.2.2
  dsimp only
  conv => cbv
  refine ⟨fun h => ?_, fun h => ?_⟩
  · have hlt : r < 25 := by have := cLt har (b := 25) h; omega
    obtain ⟨z, hz⟩ : ∃ z : Int, z = ((g A r).toNat : Int) := ⟨_, rfl⟩
    obtain ⟨u, hu⟩ : ∃ z : Int, z = ((g (sumsAt A r) (r % 5)).toNat : Int) := ⟨_, rfl⟩
    have hy : Y[ri.toNat]? = some (.int .u64 z) := get_at hri (by rw [hY, hz]; exact g_get (by omega))
    have hm : ar.ib .rem .i64 ri 5 = ((r % 5 : Nat) : Int) := iRemL har (m := 5) hri
    have hsl := sumsAt_len A r
    have hnat : ar.nat (ar.ib .rem .i64 ri 5) = r % 5 := natOf har hm
    have hs : S[ar.nat (ar.ib .rem .i64 ri 5)]? = some (.int .u64 u) := by rw [hnat, hS, hu]; exact g_get (by omega)
    have hb5 : 0 ≤ ar.ib .rem .i64 ri 5 ∧ ar.ib .rem .i64 ri 5 < 5 := by rw [hm]; omega
    have hn5 : ar.nat (ar.ib .rem .i64 ri 5) < 5 := by rw [hnat]; omega
    have hS2 : ar.set S (ar.nat (ar.ib .rem .i64 ri 5)) (.int .u64 (ar.ib .xor .u64 u z)) = wvs (sumsAt A (r + 1)) := by
      rw [setIs har, hnat, iIs har, hu, hz, kxor, hS, sumsAt, ← wvs_set]; rfl
    conv => cbv
    refine ⟨_, fun _ => ⟨by omega, hy⟩, ?_⟩
    conv => cbv
    refine ⟨fun _ => hb5, _, hs, ?_⟩
    conv => cbv
    refine ⟨fun _ => hb5, fun _ => hn5, ?_⟩
    refine ⟨⟨(r + 1, ar.ib .add .i64 ri 1, ar.set S (ar.nat (ar.ib .rem .i64 ri 5)) (.int .u64 (ar.ib .xor .u64 u z))), hlt, iSucc har hri (by omega), hS2⟩, ?_, ?_⟩
    · dsimp only
      conv => cbv
      simp
    · show 25 - (r + 1) < 25 - r
      omega
  have hre : r = 25 := by have := cNlt har (b := 25) h; omega
  rw [hre] at hS
  obtain ⟨SS, hSS⟩ : ∃ X, X = sumsAt A 25 := ⟨_, rfl⟩
  rw [← hSS] at hS
  have hSSl : SS.length = 5 := by rw [hSS, sumsAt_len]
  conv => cbv
  refine .inr ⟨{ q : Nat × Int × List Value // q.1 ≤ 25 ∧ q.2.1 = q.1 ∧ q.2.2 = wvs (turnAt A SS q.1) },
    fun q => ⟨mk 106 [(1, .s (.ptr 0 0)), (2, .s (.ptr 1 0)), (3, .s (.ptr 2 0)), (4, .s (.ptr 3 0)), (19, .a [.r 24 NU]), (20, pint pi), (6, .s (.p (.v (.int .u64 NZ)))), (7, .s (.ptr 4 0)), (10, .s (.ptr 5 0)), (36, .a [.r 25 Y]), (37, pint q.1.2.1)], [.box [.r 25 Y], .box [.r 25 (wvs (List.replicate 25 0))], .box [.r 25 TU], .box [.r 25 GO], .box [.r 5 S], .box [.r 25 q.1.2.2]]⟩,
    fun q => 25 - q.1.1, [], _, ⟨(0, 0, wvs (List.replicate 25 0)), Nat.zero_le _, rfl, rfl⟩, rfl, ?_, ?_⟩
  · conv => cbv
    simp
  rintro ⟨⟨r, ri, T⟩, hq⟩
  have hr : r ≤ 25 := hq.1
  have hri : ri = (r : Int) := hq.2.1
  have hT : T = wvs (turnAt A SS r) := hq.2.2
  dsimp only
  conv => cbv
  refine ⟨fun h => ?_, fun h => ?_⟩
  · have hlt : r < 25 := by have := cLt har (b := 25) h; omega
    obtain ⟨z, hz⟩ : ∃ z : Int, z = ((g A r).toNat : Int) := ⟨_, rfl⟩
    obtain ⟨u1, hu1⟩ : ∃ z : Int, z = ((g SS ((r + 4) % 5)).toNat : Int) := ⟨_, rfl⟩
    obtain ⟨u2, hu2⟩ : ∃ z : Int, z = ((g SS ((r + 1) % 5)).toNat : Int) := ⟨_, rfl⟩
    obtain ⟨c1, hc1⟩ : ∃ z : Int, z = ((rot (g SS ((r + 1) % 5)) 1).toNat : Int) := ⟨_, rfl⟩
    obtain ⟨c2, hc2⟩ : ∃ z : Int, z = ((turnV A SS r).toNat : Int) := ⟨_, rfl⟩
    obtain ⟨gr, hgr⟩ : ∃ z : Int, z = (goe r : Int) := ⟨_, rfl⟩
    obtain ⟨tr, htr⟩ : ∃ z : Int, z = (tur r : Int) := ⟨_, rfl⟩
    have hy : Y[ri.toNat]? = some (.int .u64 z) := get_at hri (by rw [hY, hz]; exact g_get (by omega))
    have h4 : ar.ib .rem .i64 (ar.ib .add .i64 ri 4) 5 = (((r + 4) % 5 : Nat) : Int) := iRemL har (m := 5) (iAddL har hri (m := 4) rfl (by omega))
    have h1 : ar.ib .rem .i64 (ar.ib .add .i64 ri 1) 5 = (((r + 1) % 5 : Nat) : Int) := iRemL har (m := 5) (iAddL har hri (m := 1) rfl (by omega))
    have hn4 := natOf har h4
    have hn1 := natOf har h1
    have hs4 : S[ar.nat (ar.ib .rem .i64 (ar.ib .add .i64 ri 4) 5)]? = some (.int .u64 u1) := by rw [hn4, hS, hu1]; exact g_get (by omega)
    have hs1 : S[ar.nat (ar.ib .rem .i64 (ar.ib .add .i64 ri 1) 5)]? = some (.int .u64 u2) := by rw [hn1, hS, hu2]; exact g_get (by omega)
    have hb4 : 0 ≤ ar.ib .rem .i64 (ar.ib .add .i64 ri 4) 5 ∧ ar.ib .rem .i64 (ar.ib .add .i64 ri 4) 5 < 5 := by rw [h4]; omega
    have hb1 : 0 ≤ ar.ib .rem .i64 (ar.ib .add .i64 ri 1) 5 ∧ ar.ib .rem .i64 (ar.ib .add .i64 ri 1) 5 < 5 := by rw [h1]; omega
    have hV : ar.ib .xor .u64 z (ar.ib .xor .u64 u1 c1) = ((g A r ^^^ (g SS ((r + 4) % 5) ^^^ rot (g SS ((r + 1) % 5)) 1)).toNat : Int) := by
      rw [iIs har, iIs har, hz, hu1, hc1, kxor, kxor]
    have callR : ∀ (v : W6) (s : Nat) (a b c : Int) (Γ : Ctx) (d : Nat) (k : List PR → Prop), Γ = ctx Tryz.prog d → a = (v.toNat : Int) → b = (s : Int) → s < 64 → c = ((rot v s).toNat : Int) → k [.s (.v (.int .u64 c))] → Γ.g 166 [.s (.v (.int .u64 a)), .s (.v (.int .i64 b))] k := fun v s a b c Γ d k hΓ ha hb hs hc hk => call_by' hΓ rotl_sound ⟨v, s, by rw [ha, hb]; rfl, hs, by rw [hc] at hk; exact hk⟩
    have hri25 : 0 ≤ ri ∧ ri < 25 := by omega
    have hnr : ar.nat ri = r := natOf har hri
    have hgo : GO[ar.nat ri]? = some (.int .i64 gr) := by rw [hnr, hGO, hgr]; exact goes_get hlt
    have htu : TU[ar.nat ri]? = some (.int .i64 tr) := by rw [hnr, hTU, htr]; exact turs_get hlt
    have hgl := goe_lt r hlt
    have hg25 : 0 ≤ gr ∧ gr < 25 := by omega
    have hng : ar.nat gr = goe r := natOf har hgr
    have hng25 : ar.nat gr < 25 := by rw [hng]; exact hgl
    have hT2 : ar.set T (ar.nat gr) (.int .u64 c2) = wvs (turnAt A SS (r + 1)) := by
      rw [setIs har, hng, hc2, hT, turnAt, ← wvs_set]; rfl
    conv => cbv
    refine ⟨_, fun _ => ⟨by omega, hy⟩, ?_⟩
    conv => cbv
    refine ⟨by rw [har]; kernel_rfl, ?_⟩
    refine ⟨fun _ => hb4, _, hs4, ?_⟩
    conv => cbv
    refine ⟨fun _ => hb1, _, hs1, ?_⟩
    conv => cbv
    refine callR _ 1 _ _ c1 _ _ _ hΓ hu2 rfl (by omega) hc1 ?_
    conv => cbv
    refine ⟨by rw [har]; kernel_rfl, ?_⟩
    refine ⟨fun _ => hri25, _, hgo, ?_⟩
    conv => cbv
    refine ⟨fun _ => hri25, _, htu, ?_⟩
    conv => cbv
    refine callR _ (tur r) _ _ c2 _ _ _ hΓ hV htr (tur_lt r hlt) hc2 ?_
    conv => cbv
    refine ⟨fun _ => hg25, fun _ => hng25, ?_⟩
    refine ⟨⟨(r + 1, ar.ib .add .i64 ri 1, ar.set T (ar.nat gr) (.int .u64 c2)), hlt, iSucc har hri (by omega), hT2⟩, ?_, ?_⟩
    · dsimp only
      conv => cbv
      simp
    · show 25 - (r + 1) < 25 - r
      omega
  have hre : r = 25 := by have := cNlt har (b := 25) h; omega
  rw [hre] at hT
  obtain ⟨TT, hTT⟩ : ∃ X, X = turnAt A SS 25 := ⟨_, rfl⟩
  rw [← hTT] at hT
  have hTTl : TT.length = 25 := by rw [hTT, turnAt_len]
  conv => cbv
  refine .inr ⟨{ q : Nat × Int × List Value // q.1 ≤ 5 ∧ q.2.1 = ((5 * q.1 : Nat) : Int) ∧ q.2.2 = wvs (chiAt A TT (5 * q.1)) },
    fun q => ⟨mk 106 [(1, .s (.ptr 0 0)), (2, .s (.ptr 1 0)), (3, .s (.ptr 2 0)), (4, .s (.ptr 3 0)), (19, .a [.r 24 NU]), (20, pint pi), (6, .s (.p (.v (.int .u64 NZ)))), (10, .s (.ptr 5 0)), (13, pint q.1.2.1)], [.box [.r 25 q.1.2.2], .box [.r 25 (wvs (List.replicate 25 0))], .box [.r 25 TU], .box [.r 25 GO], .box [.r 5 S], .box [.r 25 T]]⟩,
    fun q => 5 - q.1.1, [], _, ⟨(0, 0, Y), Nat.zero_le _, rfl, hY⟩, rfl, ?_, ?_⟩
  · conv => cbv
    simp
  rintro ⟨⟨y, yi, Z⟩, hq⟩
  have hy5 : y ≤ 5 := hq.1
  have hyi : yi = ((5 * y : Nat) : Int) := hq.2.1
  have hZ0 : Z = wvs (chiAt A TT (5 * y)) := hq.2.2
  dsimp only
  conv => cbv
  refine ⟨fun h => ?_, fun h => ?_⟩
  · have hylt : y < 5 := by have := cLt har (b := 25) h; omega
    conv => cbv
    refine .inr ⟨{ q : Nat × Int × List Value // q.1 ≤ 5 ∧ q.2.1 = q.1 ∧ q.2.2 = wvs (chiAt A TT (5 * y + q.1)) },
      fun q => ⟨mk 106 [(1, .s (.ptr 0 0)), (2, .s (.ptr 1 0)), (3, .s (.ptr 2 0)), (4, .s (.ptr 3 0)), (19, .a [.r 24 NU]), (20, pint pi), (6, .s (.p (.v (.int .u64 NZ)))), (10, .s (.ptr 5 0)), (13, pint yi), (69, pint q.1.2.1)], [.box [.r 25 q.1.2.2], .box [.r 25 (wvs (List.replicate 25 0))], .box [.r 25 TU], .box [.r 25 GO], .box [.r 5 S], .box [.r 25 T]]⟩,
      fun q => 5 - q.1.1, [], _, ⟨(0, 0, Z), Nat.zero_le _, rfl, hZ0⟩, rfl, ?_, ?_⟩
    · conv => cbv
      simp
    rintro ⟨⟨x, xi, Z⟩, hq⟩
    have hx5 : x ≤ 5 := hq.1
    have hxi : xi = (x : Int) := hq.2.1
    have hZ : Z = wvs (chiAt A TT (5 * y + x)) := hq.2.2
    dsimp only
    conv => cbv
    refine ⟨fun h => ?_, fun h => ?_⟩
    · have hxlt : x < 5 := by have := cLt har (b := 5) h; omega
      obtain ⟨z0, hz0⟩ : ∃ z : Int, z = ((g TT (5 * y + x)).toNat : Int) := ⟨_, rfl⟩
      obtain ⟨z1, hz1⟩ : ∃ z : Int, z = ((g TT (5 * y + (x + 1) % 5)).toNat : Int) := ⟨_, rfl⟩
      obtain ⟨z2, hz2⟩ : ∃ z : Int, z = ((g TT (5 * y + (x + 2) % 5)).toNat : Int) := ⟨_, rfl⟩
      have i0 : ar.ib .add .i64 yi xi = ((5 * y + x : Nat) : Int) := iAddL har hyi hxi (by omega)
      have i1 : ar.ib .add .i64 yi (ar.ib .rem .i64 (ar.ib .add .i64 xi 1) 5) = ((5 * y + (x + 1) % 5 : Nat) : Int) := iAddL har hyi (iRemL har (m := 5) (iAddL har hxi (m := 1) rfl (by omega))) (by omega)
      have i2 : ar.ib .add .i64 yi (ar.ib .rem .i64 (ar.ib .add .i64 xi 2) 5) = ((5 * y + (x + 2) % 5 : Nat) : Int) := iAddL har hyi (iRemL har (m := 5) (iAddL har hxi (m := 2) rfl (by omega))) (by omega)
      have n0 := natOf har i0
      have n1 := natOf har i1
      have n2 := natOf har i2
      have t0 : T[ar.nat (ar.ib .add .i64 yi xi)]? = some (.int .u64 z0) := by rw [n0, hT, hz0]; exact g_get (by omega)
      have t1 : T[ar.nat (ar.ib .add .i64 yi (ar.ib .rem .i64 (ar.ib .add .i64 xi 1) 5))]? = some (.int .u64 z1) := by rw [n1, hT, hz1]; exact g_get (by omega)
      have t2 : T[ar.nat (ar.ib .add .i64 yi (ar.ib .rem .i64 (ar.ib .add .i64 xi 2) 5))]? = some (.int .u64 z2) := by rw [n2, hT, hz2]; exact g_get (by omega)
      have b0 : 0 ≤ ar.ib .add .i64 yi xi ∧ ar.ib .add .i64 yi xi < 25 := by rw [i0]; omega
      have b1 : 0 ≤ ar.ib .add .i64 yi (ar.ib .rem .i64 (ar.ib .add .i64 xi 1) 5) ∧ ar.ib .add .i64 yi (ar.ib .rem .i64 (ar.ib .add .i64 xi 1) 5) < 25 := by rw [i1]; omega
      have b2 : 0 ≤ ar.ib .add .i64 yi (ar.ib .rem .i64 (ar.ib .add .i64 xi 2) 5) ∧ ar.ib .add .i64 yi (ar.ib .rem .i64 (ar.ib .add .i64 xi 2) 5) < 25 := by rw [i2]; omega
      have l0 : ar.nat (ar.ib .add .i64 yi xi) < 25 := by rw [n0]; omega
      have hZ2 : ar.set Z (ar.nat (ar.ib .add .i64 yi xi)) (.int .u64 (ar.ib .xor .u64 z0 (ar.ib .and .u64 (ar.ub .xor .u64 z1) z2))) = wvs (chiAt A TT (5 * y + (x + 1))) := by
        have e : ar.ub .xor .u64 z1 = intU .xor .u64 z1 := by rw [har]; rfl
        have m1 : 5 * ((5 * y + x) / 5) = 5 * y := by omega
        have m2 : (5 * y + x) % 5 = x := by omega
        rw [setIs har, n0, iIs har, iIs har, e, hz0, hz1, hz2, knot, kand, kxor, hZ, ← Nat.add_assoc, chiAt, ← wvs_set, chiV, m1, m2]; rfl
      conv => cbv
      refine ⟨by rw [har]; kernel_rfl, ?_⟩
      refine ⟨fun _ => b0, _, t0, ?_⟩
      conv => cbv
      refine ⟨fun _ => b1, _, t1, ?_⟩
      conv => cbv
      refine ⟨fun _ => b2, _, t2, ?_⟩
      conv => cbv
      refine ⟨fun _ => b0, fun _ => l0, ?_⟩
      refine ⟨⟨(x + 1, ar.ib .add .i64 xi 1, ar.set Z (ar.nat (ar.ib .add .i64 yi xi)) (.int .u64 (ar.ib .xor .u64 z0 (ar.ib .and .u64 (ar.ub .xor .u64 z1) z2)))), hxlt, iSucc har hxi (by omega), hZ2⟩, ?_, ?_⟩
      · dsimp only
        conv => cbv
        simp
      · show 5 - (x + 1) < 5 - x
        omega
    have hxe : x = 5 := by have := cNlt har (b := 5) h; omega
    rw [hxe] at hZ
    conv => cbv
    refine ⟨⟨(y + 1, ar.ib .add .i64 yi 5, Z), hylt, by show ar.ib .add .i64 yi 5 = ((5 * (y + 1) : Nat) : Int); rw [iAddL har (b := 5) hyi (m := 5) rfl (by omega)]; omega, hZ⟩, ?_, ?_⟩
    · dsimp only
      conv => cbv
      simp
    · show 5 - (y + 1) < 5 - y
      omega
  have hye : y = 5 := by have := cNlt har (b := 25) h; omega
  rw [hye] at hZ0
  obtain ⟨CC, hCC⟩ : ∃ X, X = chiAt A TT 25 := ⟨_, rfl⟩
  rw [← hCC] at hZ0
  have hCCl : CC.length = 25 := by rw [hCC, chiAt_len, hPl]
  obtain ⟨f0, hf0⟩ : ∃ z : Int, z = ((g CC 0).toNat : Int) := ⟨_, rfl⟩
  have hz0 : Z[(0 : Nat)]? = some (.int .u64 f0) := by rw [hZ0, hf0]; exact g_get (by omega)
  have hfin : Z.set 0 (.int .u64 (ar.ib .xor .u64 f0 NZ)) = wvs (permAt L (p + 1)) := by
    rw [iIs har, hf0, hNZ, kxor, hZ0, permAt, ← hA, rnd, ← hSS, ← hTT, ← hCC, ← wvs_set]; rfl
  obtain ⟨Zt, hZt⟩ : ∃ t, Z = .int .u64 f0 :: t := by
    cases Z with
    | nil => cases hz0
    | cons w t => simp at hz0; exact ⟨t, by rw [hz0]⟩
  subst hZt
  conv => cbv
  refine ⟨⟨(p + 1, ar.ib .add .i64 pi 1, .int .u64 (ar.ib .xor .u64 f0 NZ) :: Zt), hlt, iSucc har hpi (by omega), hfin⟩, ?_, ?_⟩
  · dsimp only
    conv => cbv
    simp
  · show 24 - (p + 1) < 24 - p
    omega
end Go.Eng
namespace Go.Eng
open Go
set_option linter.unusedVariables false

def b2w (x : Int) : W6 := BitVec.ofNat 64 x.toNat
def xorV (L : List W6) (B : List Int) (n : Nat) : W6 := g L (n / 8) ^^^ (b2w (B.getD n 0) <<< (8 * (n % 8)))
def xorIn (L : List W6) (B : List Int) : Nat → List W6
  | 0 => L
  | n + 1 => (xorIn L B n).set (n / 8) (xorV (xorIn L B n) B n)
theorem xorIn_len (L : List W6) (B : List Int) : ∀ n, (xorIn L B n).length = L.length
  | 0 => rfl
  | n + 1 => by rw [xorIn, List.length_set, xorIn_len L B n]
def absb (L : List W6) (B : List Int) : List W6 := perm (xorIn L B 136)
theorem absb_len (L : List W6) (B : List Int) : (absb L B).length = L.length := by rw [absb, perm_len, xorIn_len]
def absN (bs : List Int) : Nat → List W6
  | 0 => List.replicate 25 0
  | n + 1 => absb (absN bs n) ((bs.drop (136 * n)).take 136)
theorem absN_len (bs : List Int) : ∀ n, (absN bs n).length = 25
  | 0 => rfl
  | n + 1 => by rw [absN, absb_len, absN_len bs n]
def sqV (L : List W6) (k : Nat) : Int := (((g L (k / 8)) >>> (8 * (k % 8))).toNat % 256 : Nat)
def sq (L : List W6) : List Int := (List.range 32).map (sqV L)
def tailB (r : Nat) : List Int := if r = 135 then [129] else 1 :: (List.replicate (134 - r) 0 ++ [128])
def filled (bs : List Int) : List Int := bs ++ tailB (bs.length % 136)
/-- The digest of a text. -/
def kec (bs : List Int) : List Int := sq (absN (filled bs) (bs.length / 136 + 1))

theorem tailB_len {r : Nat} (h : r < 136) : (tailB r).length = 136 - r := by
  unfold tailB
  split
  · rename_i e; subst e; rfl
  · simp; omega

theorem absN_append (bs x : List Int) : ∀ n, 136 * n ≤ bs.length → absN (bs ++ x) n = absN bs n
  | 0, _ => rfl
  | n + 1, h => by
    rw [absN, absN, absN_append bs x n (by omega), List.drop_append_of_le_length (by omega), List.take_append_of_le_length (by rw [List.length_drop]; omega)]

/-- What the sponge holds when bs has been taken in. -/
structure Held (bs : List Int) (L : List W6) (P : List Int) (h : Nat) : Prop where
  l : L = absN bs (bs.length / 136)
  p : P.length = 136
  e : h = bs.length % 136
  r : P.take h = bs.drop (136 * (bs.length / 136))

theorem Held.start (P : List Int) (hp : P.length = 136) : Held [] (List.replicate 25 0) P 0 := ⟨rfl, hp, rfl, by simp⟩

/-- A piece goes in that fills no block. -/
theorem Held.part {bs : List Int} {L : List W6} {P : List Int} {h : Nat} (H : Held bs L P h) (x : List Int) (hx : h + x.length < 136) : Held (bs ++ x) L (P.take h ++ (x ++ P.drop (h + x.length))) (h + x.length) := by
  obtain ⟨h1, h2, h3, h4⟩ := H
  have e1 : (bs ++ x).length / 136 = bs.length / 136 := by rw [List.length_append]; omega
  have e2 : (bs ++ x).length % 136 = h + x.length := by rw [List.length_append]; omega
  have hle : 136 * (bs.length / 136) ≤ bs.length := by omega
  refine ⟨by rw [e1, absN_append _ _ _ hle, h1], by simp [h2]; omega, e2.symm, ?_⟩
  rw [e1, List.drop_append_of_le_length hle, ← h4, ← List.append_assoc, List.take_append_of_le_length (by simp [h2]; omega), List.take_of_length_le (by simp [h2]; omega)]

/-- A piece goes in that fills the block. -/
theorem Held.full {bs : List Int} {L : List W6} {P : List Int} {h : Nat} (H : Held bs L P h) (x : List Int) (hx : h + x.length = 136) : Held (bs ++ x) (absb L (P.take h ++ (x ++ P.drop (h + x.length)))) (P.take h ++ (x ++ P.drop (h + x.length))) 0 := by
  obtain ⟨h1, h2, h3, h4⟩ := H
  have e1 : (bs ++ x).length / 136 = bs.length / 136 + 1 := by rw [List.length_append]; omega
  have e2 : (bs ++ x).length % 136 = 0 := by rw [List.length_append]; omega
  have hle : 136 * (bs.length / 136) ≤ bs.length := by omega
  have e3 : P.take h ++ (x ++ P.drop (h + x.length)) = bs.drop (136 * (bs.length / 136)) ++ x := by
    rw [← h4, List.drop_of_length_le (by omega), List.append_nil]
  refine ⟨?_, by simp [h2]; omega, e2.symm, ?_⟩
  · rw [e1, absN, absN_append _ _ _ hle, ← h1, List.drop_append_of_le_length hle, e3, List.take_of_length_le (by simp; omega)]
  · rw [e1]; exact (List.drop_of_length_le (by rw [List.length_append]; omega)).symm

/-- The last block. -/
theorem Held.last {bs : List Int} {L : List W6} {P : List Int} {h : Nat} (H : Held bs L P h) : kec bs = sq (absb L (P.take h ++ tailB h)) := by
  obtain ⟨h1, h2, h3, h4⟩ := H
  have hle : 136 * (bs.length / 136) ≤ bs.length := by omega
  have hr : bs.length % 136 < 136 := Nat.mod_lt _ (by omega)
  have ht := tailB_len hr
  rw [kec, absN, filled, absN_append _ _ _ hle, ← h1, List.drop_append_of_le_length hle, ← h4, ← h3, List.take_of_length_le]
  rw [← h3] at ht
  rw [List.length_append, List.length_take, ht]; omega

theorem zrep_set {n : Nat} (h : 0 < n) (v : Int) : (List.replicate n (0 : Int)).set 0 v = v :: List.replicate (n - 1) 0 := by
  obtain ⟨m, rfl⟩ : ∃ m, n = m + 1 := ⟨n - 1, by omega⟩
  rfl
/-- The program's last block: the rest cleared, the first byte behind the text, the last bit. -/
theorem last_block {P : List Int} {h : Nat} (hp : P.length = 136) (hh : h < 136) (v : Int) (hv : v = if h = 135 then 129 else 128) :
    ((P.take h ++ List.replicate (136 - h) 0).set h 1).set 135 v = P.take h ++ tailB h := by
  have hl : (P.take h).length = h := by rw [List.length_take]; omega
  rw [List.set_append_right _ _ (by omega), hl, Nat.sub_self, zrep_set (by omega), List.set_append_right _ _ (by omega), hl, show 136 - h - 1 = 135 - h by omega]
  congr 1
  unfold tailB
  split
  · rename_i e; subst e; simp [hv]
  · rename_i e
    rw [hv, if_neg e]
    obtain ⟨m, hm⟩ : ∃ m, 135 - h = m + 1 := ⟨134 - h, by omega⟩
    rw [hm, show 134 - h = m by omega, List.replicate_succ', List.set_cons_succ, List.set_append_right _ _ (by simp)]
    simp

theorem b2w_cv {x : Int} (h : 0 ≤ x ∧ x < 256) : (b2w x).toNat = x.toNat := by
  rw [b2w, BitVec.toNat_ofNat]; omega
theorem b2w_int {x : Int} (h : 0 ≤ x ∧ x < 256) : x = ((b2w x).toNat : Int) := by rw [b2w_cv h]; omega

def outAt (L : List W6) : Nat → List Int
  | 0 => List.replicate 32 0
  | n + 1 => (outAt L n).set n (sqV L n)
theorem outAt_eq (L : List W6) : ∀ n, n ≤ 32 → outAt L n = (List.range n).map (sqV L) ++ List.replicate (32 - n) 0
  | 0, _ => rfl
  | n + 1, h => by
    rw [outAt, outAt_eq L n (by omega), List.set_append_right _ _ (by simp), List.length_map, List.length_range, Nat.sub_self, zrep_set (by omega), List.range_succ, List.map_append, List.append_assoc]
    rfl
theorem outAt_sq (L : List W6) : outAt L 32 = sq L := by
  rw [outAt_eq L 32 (by omega)]; simp [sq]
theorem outAt_len (L : List W6) : ∀ n, (outAt L n).length = 32
  | 0 => rfl
  | n + 1 => by rw [outAt, List.length_set, outAt_len L n]
theorem filled_len (bs : List Int) : (filled bs).length = 136 * (bs.length / 136 + 1) := by
  rw [filled, List.length_append, tailB_len (Nat.mod_lt _ (by omega))]; omega
theorem absN_step (bs : List Int) (n : Nat) : absN bs (n + 1) = perm (xorIn (absN bs n) ((bs.drop (136 * n)).take 136) 136) := rfl

end Go.Eng
namespace Go.Eng
open Go Go.Proofs
set_option maxRecDepth 100000
set_option maxHeartbeats 8000000
set_option linter.unusedVariables false

/-- A text among texts. -/
structure Tex where
  d : List Int
  s : List (List PS)
def Tex.row (t : Tex) : List PS := [.c (.sl (t.d.map b8') t.s)]
def join : List Tex → List Int
  | [] => []
  | t :: l => t.d ++ join l
theorem join_append (a b : List Tex) : join (a ++ b) = join a ++ join b := by
  induction a with
  | nil => rfl
  | cons t a ih => simp only [List.cons_append, join, ih, List.append_assoc]
theorem join_take {l : List Tex} {p : Nat} {t : Tex} (h : l[p]? = some t) : join (l.take (p + 1)) = join (l.take p) ++ t.d := by
  rw [List.take_add_one, h, join_append]; simp [join]
theorem join_le (l : List Tex) (p : Nat) : (join (l.take p)).length ≤ (join l).length := by
  have := join_append (l.take p) (l.drop p)
  rw [List.take_append_drop] at this
  rw [this, List.length_append]; omega
theorem b8'_row (d : List Int) : ∀ y ∈ d.map b8', rlen y = 1 := fun y hy => by
  rw [List.mem_map] at hy; obtain ⟨x, _, rfl⟩ := hy; rfl

theorem filled_of (d : List Int) : (d ++ 1 :: List.replicate (135 - d.length % 136) 0).set (d.length + (135 - d.length % 136)) (if d.length % 136 = 135 then 129 else 128) = filled d := by
  have hr : d.length % 136 < 136 := Nat.mod_lt _ (by omega)
  rw [filled, List.set_append_right _ _ (by omega), Nat.add_sub_cancel_left]
  congr 1
  unfold tailB
  split
  · rename_i e; rw [e]; rfl
  · rename_i e
    obtain ⟨m, hm⟩ : ∃ m, 135 - d.length % 136 = m + 1 := ⟨134 - d.length % 136, by omega⟩
    rw [hm, show 134 - d.length % 136 = m by omega, List.replicate_succ', List.set_cons_succ, List.set_append_right _ _ (by simp)]
    simp
end Go.Eng
namespace Go.Eng
open Go Go.Proofs
set_option maxRecDepth 100000
set_option maxHeartbeats 16000000
set_option linter.unusedVariables false

theorem call_inV {P : Program} {ar : Ar} {Γ : Ctx} {d : Nat} {f : FuncId} {fn : Func} {c : Code} {st : List Value → Func → St} {κ : List Value → Func → Kt} (har : ar = arS) (hΓ : Γ = ctx P (d + 1)) (hf : P.funcs[f]? = some fn) (hb : fn.body = some c)
    (h : ∀ Γ', Γ' = ctx P d → ∀ vs, vcC ar Γ' c (st vs fn) (κ vs fn)) : ∃ fn c, Γ.bd f fn c ∧ ∀ vs, Γ.inl c (st vs fn) (κ vs fn) := by
  subst hΓ; subst har
  exact ⟨fn, c, ⟨hf, hb⟩, fun vs => h _ rfl vs⟩
theorem valsOf_b8 (d : List Int) : valsOf (d.map b8') = u8s d := by
  rw [valsOf, List.map_map]; rfl
theorem cpw_u8s (P x : List Int) (h : Nat) (hp : P.length = 136) (hh : h ≤ 136) : arS.cpw (u8s P) h (x.map b8') = u8s (P.take h ++ (x.take (136 - h) ++ P.drop (h + (x.take (136 - h)).length))) := by
  simp only [arS]
  rw [valsOf_b8]
  simp only [u8s, List.length_map, hp, List.map_append, List.map_take, List.map_drop, List.length_take, Nat.min_comm]

theorem digest_sound : Sound Tryz.prog 42 fun args k => ∃ (ps : List Tex) (s : List (List PS)), args = [.s (.v (.int .i64 0)), .s (.sl (ps.map Tex.row) s)] ∧ ps.length ≤ 2 ^ 30 ∧ (join ps).length ≤ 2 ^ 30 ∧ (∀ b ∈ join ps, 0 ≤ b ∧ b < 256) ∧ (∀ t ∈ ps, ∀ z ∈ t.s, rlen z = 1) ∧ k [.a [.r 32 (u8s (kec (join ps)))]] := by
  refine Sound.of_bodyL [true, false] 2 tt_ok ent_ok Tryz.func42 rfl ?_
  rintro ar har Γ hΓ args k ⟨ps, s, hargs, hl, hj, hbt, hsl, hk⟩
  obtain ⟨X, hX⟩ : ∃ X, X = ps.map Tex.row := ⟨_, rfl⟩
  have hXl : ar.len X = (ps.length : Int) := by rw [lenIs har, hX, List.length_map]
  rw [← hX] at hargs
  subst hargs
  conv => cbv
  refine .inr ⟨{ q : Nat × Int × List Value × List Value × Int × Int // q.1 ≤ ps.length ∧ q.2.1 = q.1 ∧ ∃ L P h, Held (join (ps.take q.1)) L P h ∧ q.2.2.1 = wvs L ∧ q.2.2.2.1 = u8s P ∧ q.2.2.2.2.1 = (h : Int) ∧ (∀ b ∈ P, 0 ≤ b ∧ b < 256) },
    fun q => ⟨mk 20 [(4, .s (.ptr 0 0)), (5, .s (.ptr 1 0)), (10, .s (.p (.sl X s))), (11, pint (ar.len X)), (12, pint q.1.2.1)], [.box [.r 32 (u8s (List.replicate 32 0))], .box [.c (.lit .i64 0), .r 25 q.1.2.2.1, .r 136 q.1.2.2.2.1, .c (.p (.v (.int .i64 q.1.2.2.2.2.1))), .c (.p (.v (.int .i64 q.1.2.2.2.2.2)))]]⟩,
    fun q => ps.length - q.1.1, [], _, ⟨(0, 0, wvs (List.replicate 25 0), u8s (List.replicate 136 0), 0, 0), Nat.zero_le _, rfl, _, _, _, Held.start (List.replicate 136 0) (by simp), rfl, rfl, rfl, fun b hb => by rw [List.mem_replicate] at hb; omega⟩, rfl, ?_, ?_⟩
  · conv => cbv
    simp
  rintro ⟨⟨p, pi, YV, PV, hv, lv⟩, hq⟩
  have hp : p ≤ ps.length := hq.1
  have hpi : pi = (p : Int) := hq.2.1
  obtain ⟨L, P, hh, HH, hYV, hPV, hhv, hPb⟩ : ∃ L P h, Held (join (ps.take p)) L P h ∧ YV = wvs L ∧ PV = u8s P ∧ hv = (h : Int) ∧ (∀ b ∈ P, 0 ≤ b ∧ b < 256) := hq.2.2
  dsimp only
  conv => cbv
  refine ⟨fun h => ?_, fun h => ?_⟩
  · have g' := cLt har (b := ar.len X) h
    have hlt : p < ps.length := by omega
    obtain ⟨t, ht⟩ : ∃ t, ps[p]? = some t := ⟨_, List.getElem?_eq_getElem hlt⟩
    have hjt := join_take ht
    have hjl := join_le ps (p + 1)
    have hsp := hsl t (List.mem_of_getElem? ht)
    obtain ⟨d, sd⟩ := t
    obtain ⟨D, hD⟩ : ∃ D, D = d.map b8' := ⟨_, rfl⟩
    have rx : X[pi.toNat]? = some [.c (.sl D sd)] := by rw [hX, hpi]; simp [ht, Tex.row, hD]
    have hdl : d.length ≤ 2 ^ 30 := by rw [hjt, List.length_append] at hjl; simp only at hjl; omega
    have hdb : ∀ b ∈ d, 0 ≤ b ∧ b < 256 := fun b hb => hbt b (by
      have := join_append (ps.take (p + 1)) (ps.drop (p + 1))
      rw [List.take_append_drop] at this
      rw [this, hjt]; simp [hb])
    conv => cbv
    refine ⟨_, by omega, rx, rfl, ?_⟩
    conv => cbv
    refine call_inV har hΓ Tryz.func69 rfl fun Γ1 hΓ1 vs1 => ?_
    conv => cbv
    refine .inr ⟨{ q : Nat × List (List PS) × List Value × List Value × Int // q.1 ≤ d.length ∧ q.2.1 = (d.drop q.1).map b8' ∧ ∃ L P h, Held (join (ps.take p) ++ d.take q.1) L P h ∧ q.2.2.1 = wvs L ∧ q.2.2.2.1 = u8s P ∧ q.2.2.2.2 = (h : Int) ∧ (∀ b ∈ P, 0 ≤ b ∧ b < 256) },
      fun q => ⟨mk 47 [(0, .s (.ptr 1 0)), (1, .s (.p (.sl q.1.2.1 sd)))], [.box [.r 32 (u8s (List.replicate 32 0))], .box [.c (.lit .i64 0), .r 25 q.1.2.2.1, .r 136 q.1.2.2.2.1, .c (.p (.v (.int .i64 q.1.2.2.2.2))), .c (.p (.v (.int .i64 (ar.ib .add .i64 lv (ar.len D)))))], .hid (mk 20 [(4, .s (.ptr 0 0)), (5, .s (.ptr 1 0)), (10, .s (.p (.sl X s))), (11, pint (ar.len X)), (12, pint pi)]) vs1]⟩,
      fun q => d.length - q.1.1, [], _, ⟨(0, D, YV, PV, hv), Nat.zero_le _, by rw [List.drop_zero]; exact hD, L, P, hh, by rw [List.take_zero, List.append_nil]; exact HH, hYV, hPV, hhv, hPb⟩, rfl, ?_, ?_⟩
    · conv => cbv
      simp
    rintro ⟨⟨c, Dr, YV, PV, hv⟩, hq⟩
    have hc : c ≤ d.length := hq.1
    have hDr : Dr = (d.drop c).map b8' := hq.2.1
    obtain ⟨L, P, hh, HH, hYV, hPV, hhv, hPb⟩ : ∃ L P h, Held (join (ps.take p) ++ d.take c) L P h ∧ YV = wvs L ∧ PV = u8s P ∧ hv = (h : Int) ∧ (∀ b ∈ P, 0 ≤ b ∧ b < 256) := hq.2.2
    have hDn : Dr.length = d.length - c := by rw [hDr]; simp
    have hDl : ar.len Dr = ((d.length - c : Nat) : Int) := by rw [lenIs har, hDn]
    have hPl := HH.p
    have hh136 : hh < 136 := by rw [HH.e]; exact Nat.mod_lt _ (by omega)
    dsimp only
    conv => cbv
    refine ⟨fun h => ?_, fun h => ?_⟩
    · have g' := cGt har (a := ar.len Dr) (b := 0) h
      have b1 : 0 ≤ hv ∧ hv ≤ 136 := by omega
      have b2 : ∀ y ∈ Dr, ∃ w, y = [PS.c (.v w)] := fun y hy => by
        rw [hDr, List.mem_map] at hy; obtain ⟨x, _, rfl⟩ := hy; exact ⟨_, rfl⟩
      obtain ⟨n, hn⟩ : ∃ n, n = min (d.length - c) (136 - hh) := ⟨_, rfl⟩
      have hmn : (ar.cpn Dr 136 (ar.nat hv)) = (n : Int) := by
        rw [natOf har hhv, har]
        show ((min Dr.length (136 - hh) : Nat) : Int) = _
        rw [hDn, hn]
      have b3 : 0 ≤ (ar.cpn Dr 136 (ar.nat hv)) ∧ (ar.cpn Dr 136 (ar.nat hv)) ≤ Dr.length ∧ (∀ z ∈ Dr, rlen z = 1) ∧ (∀ z ∈ sd, rlen z = 1) := ⟨by omega, by rw [hDn]; omega, fun z hz => by
        obtain ⟨w, rfl⟩ := b2 z hz; rfl, hsp⟩
      obtain ⟨P1, hP1⟩ : ∃ Q, Q = P.take hh ++ ((d.drop c).take n ++ P.drop (hh + ((d.drop c).take n).length)) := ⟨_, rfl⟩
      have hxn : ((d.drop c).take n).length = n := by rw [List.length_take, List.length_drop]; omega
      have htk : (d.drop c).take (136 - hh) = (d.drop c).take n := by
        rw [List.take_eq_take_iff, List.length_drop]; omega
      have hWP : (ar.cpw PV (ar.nat hv) Dr) = u8s P1 := by
        rw [natOf har hhv, har, hPV, hDr, cpw_u8s P _ hh hPl (by omega), htk, hP1]
      have hD2d : (ar.frm Dr (ar.nat (ar.cpn Dr 136 (ar.nat hv)))) = (d.drop (c + n)).map b8' := by
        rw [natOf har hmn, frmIs har, hDr, ← List.map_drop, List.drop_drop]
      have hh2n : (ar.ib .add .i64 hv (ar.cpn Dr 136 (ar.nat hv))) = ((hh + n : Nat) : Int) := by rw [iAdd har (by omega)]; omega
      have hP1b : ∀ b ∈ P1, 0 ≤ b ∧ b < 256 := fun b hb => by
        rw [hP1] at hb
        rcases List.mem_append.1 hb with hb | hb
        · exact hPb b (List.mem_of_mem_take hb)
        · rcases List.mem_append.1 hb with hb | hb
          · exact hdb b (List.mem_of_mem_drop (List.mem_of_mem_take hb))
          · exact hPb b (List.mem_of_mem_drop hb)
      have htx : join (ps.take p) ++ d.take c ++ (d.drop c).take n = join (ps.take p) ++ d.take (c + n) := by
        rw [List.append_assoc, List.take_add]
      have hn0 : 0 < n := by omega
      conv => cbv
      refine ⟨by rw [har]; kernel_rfl, ?_⟩
      refine ⟨fun _ => b1, fun _ => b2, fun _ => b3, fun hc2 => ?_, fun hc2 => ?_⟩
      · have h136 := cEq har (a := (ar.ib .add .i64 hv (ar.cpn Dr 136 (ar.nat hv)))) (b := 136) hc2
        rw [hh2n] at h136
        have hfull := HH.full ((d.drop c).take n) (by rw [hxn]; omega)
        rw [← hP1, htx] at hfull
        have hL1 : L.length = 25 := by rw [HH.l, absN_len]
        have hP1l : P1.length = 136 := hfull.p
        conv => cbv
        refine call_inV har hΓ1 Tryz.func110 rfl fun Γ2 hΓ2 vsa => ?_
        conv => cbv
        refine .inr ⟨{ q : Nat × Int × List Value // q.1 ≤ 136 ∧ q.2.1 = q.1 ∧ q.2.2 = wvs (xorIn L P1 q.1) },
          fun q => ⟨mk 41 [(0, .s (.ptr 1 0)), (7, .a [.r 136 (ar.cpw PV (ar.nat hv) Dr)]), (8, pint q.1.2.1)], [.box [.r 32 (u8s (List.replicate 32 0))], .box [.c (.lit .i64 0), .r 25 q.1.2.2, .r 136 (ar.cpw PV (ar.nat hv) Dr), .c (.p (.v (.int .i64 (ar.ib .add .i64 hv (ar.cpn Dr 136 (ar.nat hv)))))), .c (.p (.v (.int .i64 (ar.ib .add .i64 lv (ar.len D)))))], .hid (mk 20 [(4, .s (.ptr 0 0)), (5, .s (.ptr 1 0)), (10, .s (.p (.sl X s))), (11, pint (ar.len X)), (12, pint pi)]) vs1, .hid (mk 47 [(0, .s (.ptr 1 0)), (1, .s (.p (.sl (ar.frm Dr (ar.nat (ar.cpn Dr 136 (ar.nat hv)))) sd)))]) vsa]⟩,
          fun q => 136 - q.1.1, [], _, ⟨(0, 0, YV), Nat.zero_le _, rfl, hYV⟩, rfl, ?_, ?_⟩
        · conv => cbv
          simp
        rintro ⟨⟨r, ri, Y⟩, hq⟩
        have hr : r ≤ 136 := hq.1
        have hri : ri = (r : Int) := hq.2.1
        have hY : Y = wvs (xorIn L P1 r) := hq.2.2
        have hYn : (xorIn L P1 r).length = 25 := by rw [xorIn_len, hL1]
        dsimp only
        conv => cbv
        refine ⟨fun h => ?_, fun h => ?_⟩
        · have hlt : r < 136 := by have := cLt har (b := 136) h; omega
          obtain ⟨x, hx⟩ : ∃ x, P1[r]? = some x := ⟨_, List.getElem?_eq_getElem (by omega)⟩
          have hxb := hP1b x (List.mem_of_getElem? hx)
          have hxB : P1.getD r 0 = x := by rw [List.getD_eq_getElem?_getD, hx]; rfl
          have rx : (ar.cpw PV (ar.nat hv) Dr)[ri.toNat]? = some (.int .u8 x) := get_at hri (by rw [hWP, u8s, List.getElem?_map, hx]; rfl)
          obtain ⟨z, hz⟩ : ∃ z : Int, z = ((g (xorIn L P1 r) (r / 8)).toNat : Int) := ⟨_, rfl⟩
          have q8 : ar.ib .quo .i64 ri 8 = ((r / 8 : Nat) : Int) := by rw [hri]; exact iQuo har (b := 8) (by omega)
          have qn : ar.nat (ar.ib .quo .i64 ri 8) = r / 8 := natOf har q8
          have hz1 : Y[ar.nat (ar.ib .quo .i64 ri 8)]? = some (.int .u64 z) := by rw [qn, hY, hz]; exact g_get (by omega)
          have b8q : 0 ≤ ar.ib .quo .i64 ri 8 ∧ ar.ib .quo .i64 ri 8 < 25 := by rw [q8]; omega
          have l8q : ar.nat (ar.ib .quo .i64 ri 8) < 25 := by rw [qn]; omega
          have sh : ar.ib .mul .i64 8 (ar.ib .rem .i64 ri 8) = ((8 * (r % 8) : Nat) : Int) := by
            have e1 : ar.ib .rem .i64 ri 8 = ((r % 8 : Nat) : Int) := iRemL har (m := 8) hri
            rw [e1]; exact iMulL har (n := 8) rfl rfl (by omega)
          have sh0 : 0 ≤ ar.ib .mul .i64 8 (ar.ib .rem .i64 ri 8) := by rw [sh]; omega
          have hY2 : ar.set Y (ar.nat (ar.ib .quo .i64 ri 8)) (.int .u64 (ar.ib .xor .u64 z (ar.ib .shl .u64 (ar.cv .u64 x) (ar.ib .mul .i64 8 (ar.ib .rem .i64 ri 8))))) = wvs (xorIn L P1 (r + 1)) := by
            have e3 : ar.cv .u64 x = ((b2w x).toNat : Int) := by rw [cvU64 har (by omega)]; exact b2w_int hxb
            rw [setIs har, qn, sh, e3, iIs har, iIs har, hz, kshl _ (by omega), kxor, hY, xorIn, ← wvs_set, xorV, hxB]; rfl
          conv => cbv
          refine ⟨_, fun _ => ⟨by omega, rx⟩, ?_⟩
          conv => cbv
          refine ⟨by rw [har]; kernel_rfl, ?_⟩
          refine ⟨fun _ => b8q, _, hz1, ?_⟩
          conv => cbv
          refine ⟨fun _ => sh0, fun _ => b8q, fun _ => l8q, ?_⟩
          refine ⟨⟨(r + 1, ar.ib .add .i64 ri 1, _), hlt, iSucc har hri (by omega), hY2⟩, ?_, ?_⟩
          · dsimp only
            conv => cbv
            simp
          · show 136 - (r + 1) < 136 - r
            omega
        have hre : r = 136 := by have := cNlt har (b := 136) h; omega
        rw [hre] at hY hYn
        obtain ⟨Y2, hY2⟩ : ∃ Y, Y = wvs (absb L P1) := ⟨_, rfl⟩
        have callP : ∀ (Γ : Ctx) (d' : Nat) (k : List PR → Prop) (Q : Prop), Γ = ctx Tryz.prog d' → k [.a [.r 25 Y2]] → Γ.g 143 [.a [.r 25 Y]] k ∨ Q := fun Γ d' k Q hΓ hk => call_by hΓ permute_sound ⟨_, by rw [hY], hYn, by rw [show perm (xorIn L P1 136) = absb L P1 from rfl, ← hY2]; exact hk⟩
        conv => cbv
        refine callP _ _ _ _ hΓ2 ?_
        conv => cbv
        refine ⟨⟨(c + n, (ar.frm Dr (ar.nat (ar.cpn Dr 136 (ar.nat hv)))), Y2, (ar.cpw PV (ar.nat hv) Dr), 0), by show c + n ≤ d.length; omega, hD2d, _, P1, 0, hfull, hY2, hWP, rfl, hP1b⟩, ?_, ?_⟩
        · dsimp only
          conv => cbv
          simp
        · show d.length - (c + n) < d.length - c
          omega
      · have h136 := cNeq har (a := (ar.ib .add .i64 hv (ar.cpn Dr 136 (ar.nat hv)))) (b := 136) hc2
        rw [hh2n] at h136
        have hpart := HH.part ((d.drop c).take n) (by rw [hxn]; omega)
        rw [← hP1, htx, hxn] at hpart
        conv => cbv
        refine ⟨⟨(c + n, (ar.frm Dr (ar.nat (ar.cpn Dr 136 (ar.nat hv)))), YV, (ar.cpw PV (ar.nat hv) Dr), (ar.ib .add .i64 hv (ar.cpn Dr 136 (ar.nat hv)))), by show c + n ≤ d.length; omega, hD2d, L, P1, hh + n, hpart, hYV, hWP, hh2n, hP1b⟩, ?_, ?_⟩
        · dsimp only
          conv => cbv
          simp
        · show d.length - (c + n) < d.length - c
          omega
    have g' := cNgt har (a := ar.len Dr) (b := 0) h
    have hce : c = d.length := by omega
    rw [hce, List.take_length] at HH
    conv => cbv
    refine ⟨⟨(p + 1, ar.ib .add .i64 pi 1, YV, PV, hv, ar.ib .add .i64 lv (ar.len D)), hlt, iSucc har hpi (by omega), L, P, hh, by rw [hjt]; exact HH, hYV, hPV, hhv, hPb⟩, ?_, ?_⟩
    · dsimp only
      conv => cbv
      simp
    · show ps.length - (p + 1) < ps.length - p
      omega
  have g' := cNlt har (b := ar.len X) h
  have hpe : p = ps.length := by omega
  rw [hpe, List.take_length] at HH
  have hPl := HH.p
  have hh136 : hh < 136 := by rw [HH.e]; exact Nat.mod_lt _ (by omega)
  have hbs := HH.last
  have hL1 : L.length = 25 := by rw [HH.l, absN_len]
  have b1 : 0 ≤ hv ∧ hv ≤ 136 := by omega
  conv => cbv
  refine call_inV har hΓ Tryz.func70 rfl fun Γ3 hΓ3 vs3 => ?_
  have nh : ar.nat hv = hh := natOf har hhv
  have hC : ar.clw PV (ar.nat hv) (.int .u8 0) = u8s (P.take hh ++ List.replicate (136 - hh) 0) := by
    rw [nh, har, hPV]
    show (u8s P).take hh ++ List.replicate ((u8s P).length - hh) (Value.int .u8 0) = _
    simp only [u8s, List.length_map, hPl, List.map_append, List.map_take, List.map_replicate]
  have hz1 : (ar.clw PV (ar.nat hv) (.int .u8 0))[ar.nat hv]? = some (.int .u8 0) := by
    rw [hC, nh, u8s, List.getElem?_map, List.getElem?_append_right (by rw [List.length_take]; omega), List.length_take, hPl, List.getElem?_replicate, if_pos (by omega)]; rfl
  have b2 : 0 ≤ hv ∧ hv < 136 := by omega
  conv => cbv
  refine ⟨fun _ => b1, by rw [har]; kernel_rfl, fun _ => b2, _, hz1, ?_⟩
  have l2 : ar.nat hv < 136 := by rw [nh]; exact hh136
  obtain ⟨w5, hw5⟩ : ∃ w : Int, w = if hh = 135 then 1 else 0 := ⟨_, rfl⟩
  have hx01 : ar.ib .xor .u8 0 1 = 1 := by rw [har]; rfl
  have hC2 : ar.set (ar.clw PV (ar.nat hv) (.int .u8 0)) (ar.nat hv) (.int .u8 (ar.ib .xor .u8 0 1)) = u8s ((P.take hh ++ List.replicate (136 - hh) 0).set hh 1) := by
    rw [setIs har, hC, nh, hx01, u8s, u8s, List.map_set]
  have hC3 : ((P.take hh ++ List.replicate (136 - hh) 0).set hh 1)[135]? = some w5 := by
    rw [List.getElem?_set]
    have hl : (P.take hh ++ List.replicate (136 - hh) (0 : Int)).length = 136 := by simp [hPl]; omega
    rcases Nat.lt_or_ge hh 135 with h5 | h5
    · rw [if_neg (by omega), List.getElem?_append_right (by rw [List.length_take]; omega), List.length_take, hPl, List.getElem?_replicate, if_pos (by omega), hw5, if_neg (by omega)]
    · rw [if_pos (by omega), if_pos (by omega), hw5, if_pos (by omega)]
  have hg : (ar.set (ar.clw PV (ar.nat hv) (.int .u8 0)) (ar.nat hv) (.int .u8 (ar.ib .xor .u8 0 1)))[135]? = some (.int .u8 w5) := by
    rw [hC2, u8s, List.getElem?_map, hC3]; rfl
  conv at hg => lhs; cbv
  conv => cbv
  refine ⟨fun _ => b2, fun _ => l2, ?_⟩
  rw [hg]
  conv => cbv
  obtain ⟨P1, hP1⟩ : ∃ Q, Q = P.take hh ++ tailB hh := ⟨_, rfl⟩
  have hP1l : P1.length = 136 := by rw [hP1, List.length_append, List.length_take, tailB_len hh136]; omega
  have hP1b : ∀ b ∈ P1, 0 ≤ b ∧ b < 256 := fun b hb => by
    rw [hP1] at hb
    rcases List.mem_append.1 hb with hb | hb
    · exact hPb b (List.mem_of_mem_take hb)
    · unfold tailB at hb
      split at hb
      · simp at hb; omega
      · simp at hb; omega
  have hx5 : ar.ib .xor .u8 w5 128 = if hh = 135 then 129 else 128 := by
    rw [har, hw5]; split <;> rfl
  have hWP : ((ar.set (ar.clw PV (ar.nat hv) (.int .u8 0)) (ar.nat hv) (.int .u8 (ar.ib .xor .u8 0 1))).set 135 (.int .u8 (ar.ib .xor .u8 w5 128))) = u8s P1 := by
    rw [hC2, hx5, hP1, ← last_block hPl hh136 _ rfl, u8s, u8s, List.map_set, List.map_set, List.map_set]
  rw [← hP1] at hbs
  obtain ⟨W5, hW5⟩ : ∃ W, ((ar.set (ar.clw PV (ar.nat hv) (.int .u8 0)) (ar.nat hv) (.int .u8 (ar.ib .xor .u8 0 1))).set 135 (.int .u8 (ar.ib .xor .u8 w5 128))) = W := ⟨_, rfl⟩
  rw [hW5] at hWP
  conv at hW5 => lhs; cbv
  rw [hW5]
  refine call_inV har hΓ3 Tryz.func110 rfl fun Γ4 hΓ4 vs4 => ?_
  conv => cbv
  refine .inr ⟨{ q : Nat × Int × List Value // q.1 ≤ 136 ∧ q.2.1 = q.1 ∧ q.2.2 = wvs (xorIn L P1 q.1) },
    fun q => ⟨mk 41 [(0, .s (.ptr 4 0)), (7, .a [.r 136 W5]), (8, pint q.1.2.1)], [.box [.r 32 (u8s (List.replicate 32 0))], .box [.c (.lit .i64 0), .r 25 YV, .r 136 PV, .c (.p (.v (.int .i64 hv))), .c (.p (.v (.int .i64 lv)))], .hid (mk 20 [(4, .s (.ptr 0 0))]) vs3, .box [.r 32 (u8s (List.replicate 32 0))], .box [.c (.lit .i64 0), .r 25 q.1.2.2, .r 136 W5, .c (.p (.v (.int .i64 hv))), .c (.p (.v (.int .i64 lv)))], .hid (mk 52 [(2, .s (.ptr 3 0)), (3, .s (.ptr 4 0))]) vs4]⟩,
    fun q => 136 - q.1.1, [], _, ⟨(0, 0, YV), Nat.zero_le _, rfl, hYV⟩, rfl, ?_, ?_⟩
  · conv => cbv
    simp
  rintro ⟨⟨r, ri, Y⟩, hq⟩
  have hr : r ≤ 136 := hq.1
  have hri : ri = (r : Int) := hq.2.1
  have hY : Y = wvs (xorIn L P1 r) := hq.2.2
  have hYn : (xorIn L P1 r).length = 25 := by rw [xorIn_len, hL1]
  dsimp only
  conv => cbv
  refine ⟨fun h => ?_, fun h => ?_⟩
  · have hlt : r < 136 := by have := cLt har (b := 136) h; omega
    obtain ⟨x, hx⟩ : ∃ x, P1[r]? = some x := ⟨_, List.getElem?_eq_getElem (by omega)⟩
    have hxb := hP1b x (List.mem_of_getElem? hx)
    have hxB : P1.getD r 0 = x := by rw [List.getD_eq_getElem?_getD, hx]; rfl
    have rx : W5[ri.toNat]? = some (.int .u8 x) := get_at hri (by rw [hWP, u8s, List.getElem?_map, hx]; rfl)
    obtain ⟨z, hz⟩ : ∃ z : Int, z = ((g (xorIn L P1 r) (r / 8)).toNat : Int) := ⟨_, rfl⟩
    have q8 : ar.ib .quo .i64 ri 8 = ((r / 8 : Nat) : Int) := by rw [hri]; exact iQuo har (b := 8) (by omega)
    have qn : ar.nat (ar.ib .quo .i64 ri 8) = r / 8 := natOf har q8
    have hz1 : Y[ar.nat (ar.ib .quo .i64 ri 8)]? = some (.int .u64 z) := by rw [qn, hY, hz]; exact g_get (by omega)
    have b8q : 0 ≤ ar.ib .quo .i64 ri 8 ∧ ar.ib .quo .i64 ri 8 < 25 := by rw [q8]; omega
    have l8q : ar.nat (ar.ib .quo .i64 ri 8) < 25 := by rw [qn]; omega
    have sh : ar.ib .mul .i64 8 (ar.ib .rem .i64 ri 8) = ((8 * (r % 8) : Nat) : Int) := by
      have e1 : ar.ib .rem .i64 ri 8 = ((r % 8 : Nat) : Int) := iRemL har (m := 8) hri
      rw [e1]; exact iMulL har (n := 8) rfl rfl (by omega)
    have sh0 : 0 ≤ ar.ib .mul .i64 8 (ar.ib .rem .i64 ri 8) := by rw [sh]; omega
    have hY2 : ar.set Y (ar.nat (ar.ib .quo .i64 ri 8)) (.int .u64 (ar.ib .xor .u64 z (ar.ib .shl .u64 (ar.cv .u64 x) (ar.ib .mul .i64 8 (ar.ib .rem .i64 ri 8))))) = wvs (xorIn L P1 (r + 1)) := by
      have e3 : ar.cv .u64 x = ((b2w x).toNat : Int) := by rw [cvU64 har (by omega)]; exact b2w_int hxb
      rw [setIs har, qn, sh, e3, iIs har, iIs har, hz, kshl _ (by omega), kxor, hY, xorIn, ← wvs_set, xorV, hxB]; rfl
    conv => cbv
    refine ⟨_, fun _ => ⟨by omega, rx⟩, ?_⟩
    conv => cbv
    refine ⟨by rw [har]; kernel_rfl, ?_⟩
    refine ⟨fun _ => b8q, _, hz1, ?_⟩
    conv => cbv
    refine ⟨fun _ => sh0, fun _ => b8q, fun _ => l8q, ?_⟩
    refine ⟨⟨(r + 1, ar.ib .add .i64 ri 1, _), hlt, iSucc har hri (by omega), hY2⟩, ?_, ?_⟩
    · dsimp only
      conv => cbv
      simp
    · show 136 - (r + 1) < 136 - r
      omega
  have hre : r = 136 := by have := cNlt har (b := 136) h; omega
  rw [hre] at hY hYn
  obtain ⟨Y2, hY2⟩ : ∃ Y, Y = wvs (absb L P1) := ⟨_, rfl⟩
  have callP : ∀ (Γ : Ctx) (d' : Nat) (k : List PR → Prop) (Q : Prop), Γ = ctx Tryz.prog d' → k [.a [.r 25 Y2]] → Γ.g 143 [.a [.r 25 Y]] k ∨ Q := fun Γ d' k Q hΓ hk => call_by hΓ permute_sound ⟨_, by rw [hY], hYn, by rw [show perm (xorIn L P1 136) = absb L P1 from rfl, ← hY2]; exact hk⟩
  conv => cbv
  refine callP _ _ _ _ hΓ4 ?_
  conv => cbv
  rw [show absb L P1 = absb L P1 from rfl] at hbs
  have hal : (absb L P1).length = 25 := by rw [absb_len, hL1]
  refine .inr ⟨{ q : Nat × Int × List Value // q.1 ≤ 32 ∧ q.2.1 = q.1 ∧ q.2.2 = u8s (outAt (absb L P1) q.1) },
    fun q => ⟨mk 52 [(2, .s (.ptr 3 0)), (3, .s (.ptr 4 0)), (4, .s (.ptr 6 0)), (35, pint q.1.2.1)], [.box [.r 32 (u8s (List.replicate 32 0))], .box [.c (.lit .i64 0), .r 25 YV, .r 136 PV, .c (.p (.v (.int .i64 hv))), .c (.p (.v (.int .i64 lv)))], .hid (mk 20 [(4, .s (.ptr 0 0))]) vs3, .box [.r 32 (u8s (List.replicate 32 0))], .box [.c (.lit .i64 0), .r 25 Y2, .r 136 W5, .c (.lit .i64 0), .c (.p (.v (.int .i64 lv)))], .gone, .box [.r 32 q.1.2.2]]⟩,
    fun q => 32 - q.1.1, [], _, ⟨(0, 0, u8s (List.replicate 32 0)), Nat.zero_le _, rfl, rfl⟩, rfl, ?_, ?_⟩
  · conv => cbv
    simp
  rintro ⟨⟨r, ri, H⟩, hq⟩
  have hr : r ≤ 32 := hq.1
  have hri : ri = (r : Int) := hq.2.1
  have hH : H = u8s (outAt (absb L P1) r) := hq.2.2
  dsimp only
  conv => cbv
  refine ⟨fun h => ?_, fun h => ?_⟩
  · have hlt : r < 32 := by have := cLt har (b := 32) h; omega
    obtain ⟨z, hz⟩ : ∃ z : Int, z = ((g (absb L P1) (r / 8)).toNat : Int) := ⟨_, rfl⟩
    have q8 : ar.ib .quo .i64 ri 8 = ((r / 8 : Nat) : Int) := by rw [hri]; exact iQuo har (b := 8) (by omega)
    have qn : ar.nat (ar.ib .quo .i64 ri 8) = r / 8 := natOf har q8
    have hz1 : Y2[ar.nat (ar.ib .quo .i64 ri 8)]? = some (.int .u64 z) := by rw [qn, hY2, hz]; exact g_get (by omega)
    have b8q : 0 ≤ ar.ib .quo .i64 ri 8 ∧ ar.ib .quo .i64 ri 8 < 25 := by rw [q8]; omega
    have sh : ar.ib .mul .i64 8 (ar.ib .rem .i64 ri 8) = ((8 * (r % 8) : Nat) : Int) := by
      have e1 : ar.ib .rem .i64 ri 8 = ((r % 8 : Nat) : Int) := iRemL har (m := 8) hri
      rw [e1]; exact iMulL har (n := 8) rfl rfl (by omega)
    have sh0 : 0 ≤ ar.ib .mul .i64 8 (ar.ib .rem .i64 ri 8) := by rw [sh]; omega
    have nr : ar.nat ri = r := natOf har hri
    have br : 0 ≤ ri ∧ ri < 32 := by omega
    have lr : ar.nat ri < 32 := by rw [nr]; exact hlt
    have hH2 : ar.set H (ar.nat ri) (.int .u8 (ar.cv .u8 (ar.ib .shr .u64 z (ar.ib .mul .i64 8 (ar.ib .rem .i64 ri 8))))) = u8s (outAt (absb L P1) (r + 1)) := by
      rw [setIs har, nr, sh, iIs har, hz, kshr _ (by omega), cvU8 har, hH, outAt, u8s, u8s, List.map_set, sqV]; rfl
    conv => cbv
    refine ⟨fun _ => b8q, _, hz1, ?_⟩
    conv => cbv
    refine ⟨fun _ => sh0, fun _ => br, fun _ => lr, ?_⟩
    refine ⟨⟨(r + 1, ar.ib .add .i64 ri 1, _), hlt, iSucc har hri (by omega), hH2⟩, ?_, ?_⟩
    · dsimp only
      conv => cbv
      simp
    · show 32 - (r + 1) < 32 - r
      omega
  have hre : r = 32 := by have := cNlt har (b := 32) h; omega
  have hk : k [.a [.r 32 H]] := by rw [hH, hre, outAt_sq, ← hbs]; exact hk
  conv => cbv
  exact hk
end Go.Eng
namespace Go.Eng
open Go Go.Proofs
set_option maxRecDepth 100000
set_option linter.unusedVariables false

theorem sum_sound : Sound Tryz.prog 14 fun args k => ∃ (ps : List Tex) (s : List (List PS)), args = [.s (.sl (ps.map Tex.row) s)] ∧ ps.length ≤ 2 ^ 30 ∧ (join ps).length ≤ 2 ^ 30 ∧ (∀ b ∈ join ps, 0 ≤ b ∧ b < 256) ∧ (∀ t ∈ ps, ∀ z ∈ t.s, rlen z = 1) ∧ k [.a [.r 32 (u8s (kec (join ps)))]] := by
  refine Sound.of_body tt_ok ent_ok Tryz.func14 rfl ?_
  rintro ar har Γ hΓ args k ⟨ps, s, hargs, hl, hj, hb, hsp, hk⟩
  obtain ⟨X, hX⟩ : ∃ X, X = ps.map Tex.row := ⟨_, rfl⟩
  obtain ⟨H, hH⟩ : ∃ X, X = u8s (kec (join ps)) := ⟨_, rfl⟩
  rw [← hH] at hk
  have c1 : ∀ (Γ : Ctx) (d' : Nat) (k : List PR → Prop) (Q : Prop), Γ = ctx Tryz.prog d' → k [.a [.r 32 H]] → Γ.g 42 [.s (.v (.int .i64 0)), .s (.sl X s)] k ∨ Q := fun Γ d' k Q hΓ hk => call_by hΓ digest_sound ⟨ps, s, by rw [hX], hl, hj, hb, hsp, by rw [← hH]; exact hk⟩
  rw [← hX] at hargs
  subst hargs
  conv => cbv
  refine c1 _ _ _ _ hΓ ?_
  conv => cbv
  exact hk
end Go.Eng
