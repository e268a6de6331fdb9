/-
  Keccak-f[1600] and the sponge as plain functions on lists of words; the program's round is the reference's. No program in sight.
-/
import Derived.Test.YtejelaaocjfjbaaDoorEngS
namespace Go.Eng
open Go
set_option maxRecDepth 100000
set_option linter.unusedVariables false
set_option maxHeartbeats 8000000

abbrev W6 := BitVec 64

/-- A word in a cell. -/
def wv (x : W6) : Value := .int .u64 (x.toNat : Int)
def wvs (l : List W6) : List Value := l.map wv

theorem ofInt_toNat (a : W6) : BitVec.ofInt 64 (a.toNat : Int) = a := by
  apply BitVec.eq_of_toNat_eq
  rw [BitVec.toNat_ofInt]
  have := a.isLt
  omega
theorem wrap_toNat (a : W6) : IntKind.u64.wrap (a.toNat : Int) = (a.toNat : Int) := by
  rw [u64Wrap]; have := a.isLt; omega
theorem kxor (a b : W6) : intB .xor .u64 (a.toNat : Int) (b.toNat : Int) = ((a ^^^ b).toNat : Int) := by
  show IntKind.u64.wrap ((BitVec.ofInt 64 (a.toNat : Int) ^^^ BitVec.ofInt 64 (b.toNat : Int)).toNat : Int) = _
  rw [ofInt_toNat, ofInt_toNat, wrap_toNat]
theorem kand (a b : W6) : intB .and .u64 (a.toNat : Int) (b.toNat : Int) = ((a &&& b).toNat : Int) := by
  show IntKind.u64.wrap ((BitVec.ofInt 64 (a.toNat : Int) &&& BitVec.ofInt 64 (b.toNat : Int)).toNat : Int) = _
  rw [ofInt_toNat, ofInt_toNat, wrap_toNat]
theorem kor (a b : W6) : intB .or .u64 (a.toNat : Int) (b.toNat : Int) = ((a ||| b).toNat : Int) := by
  show IntKind.u64.wrap ((BitVec.ofInt 64 (a.toNat : Int) ||| BitVec.ofInt 64 (b.toNat : Int)).toNat : Int) = _
  rw [ofInt_toNat, ofInt_toNat, wrap_toNat]
theorem knot (a : W6) : intU .xor .u64 (a.toNat : Int) = ((~~~a).toNat : Int) := by
  have e : intU .xor .u64 (a.toNat : Int) = IntKind.u64.wrap ((BitVec.ofInt 64 18446744073709551615 ^^^ BitVec.ofInt 64 (a.toNat : Int)).toNat : Int) := rfl
  rw [e, ofInt_toNat, wrap_toNat]
  have : BitVec.ofInt 64 18446744073709551615 = BitVec.allOnes 64 := by decide
  rw [this, BitVec.allOnes_xor]
theorem kshl (a : W6) {s : Nat} (hs : s ≤ 64) : intB .shl .u64 (a.toNat : Int) (s : Int) = ((a <<< s).toNat : Int) := by
  simp only [intB, Int.toNat_natCast]
  rw [show min s IntKind.u64.bits = s from Nat.min_eq_left hs, u64Wrap, BitVec.toNat_shiftLeft, Nat.shiftLeft_eq]
  simp
theorem kshr (a : W6) {s : Nat} (hs : s ≤ 64) : intB .shr .u64 (a.toNat : Int) (s : Int) = ((a >>> s).toNat : Int) := by
  simp only [intB, Int.toNat_natCast]
  rw [show min s IntKind.u64.bits = s from Nat.min_eq_left hs, BitVec.toNat_ushiftRight, Nat.shiftRight_eq_div_pow]
  rw [Int.fdiv_eq_ediv_of_nonneg _ (by exact Int.pow_nonneg (by omega))]
  simp

def rot (v : W6) (s : Nat) : W6 := (v <<< s) ||| (v >>> (64 - s))
theorem rot0 (v : W6) : rot v 0 = v := by
  apply BitVec.eq_of_toNat_eq
  have h : v.toNat >>> 64 = 0 := by rw [Nat.shiftRight_eq_div_pow]; exact Nat.div_eq_of_lt v.isLt
  simp [rot, h]

def g (l : List W6) (i : Nat) : W6 := l.getD i 0
theorem g_get {l : List W6} {i : Nat} (h : i < l.length) : (wvs l)[i]? = some (wv (g l i)) := by
  rw [wvs, List.getElem?_map, g, List.getD_eq_getElem?_getD, List.getElem?_eq_getElem h]; rfl
theorem wvs_set (l : List W6) (i : Nat) (x : W6) : (wvs l).set i (wv x) = wvs (l.set i x) := by
  rw [wvs, wvs, List.map_set]
theorem wvs_len (l : List W6) : (wvs l).length = l.length := by rw [wvs, List.length_map]

def turs : List Nat := [0, 1, 62, 28, 27, 36, 44, 6, 55, 20, 3, 10, 43, 25, 39, 41, 45, 15, 21, 8, 18, 2, 61, 56, 14]
def tur (n : Nat) : Nat := turs.getD n 0
/-- Where a lane goes. -/
def goe (n : Nat) : Nat := n / 5 + 5 * ((2 * (n % 5) + 3 * (n / 5)) % 5)
def goes : List Nat := (List.range 25).map goe
def nums : List W6 := [0x0000000000000001, 0x0000000000008082, 0x800000000000808A, 0x8000000080008000, 0x000000000000808B, 0x0000000080000001, 0x8000000080008081, 0x8000000000008009, 0x000000000000008A, 0x0000000000000088, 0x0000000080008009, 0x000000008000000A,
  0x000000008000808B, 0x800000000000008B, 0x8000000000008089, 0x8000000000008003, 0x8000000000008002, 0x8000000000000080, 0x000000000000800A, 0x800000008000000A, 0x8000000080008081, 0x8000000000008080, 0x0000000080000001, 0x8000000080008008]

/-! ### The program's round -/
def sumsAt (L : List W6) : Nat → List W6
  | 0 => List.replicate 5 0
  | n + 1 => (sumsAt L n).set (n % 5) (g (sumsAt L n) (n % 5) ^^^ g L n)
def turnV (L S : List W6) (n : Nat) : W6 := rot (g L n ^^^ (g S ((n + 4) % 5) ^^^ rot (g S ((n + 1) % 5)) 1)) (tur n)
def turnAt (L S : List W6) : Nat → List W6
  | 0 => List.replicate 25 0
  | n + 1 => (turnAt L S n).set (goe n) (turnV L S n)
def chiV (T : List W6) (n : Nat) : W6 := g T n ^^^ (~~~(g T (5 * (n / 5) + (n % 5 + 1) % 5)) &&& g T (5 * (n / 5) + (n % 5 + 2) % 5))
def chiAt (L T : List W6) : Nat → List W6
  | 0 => L
  | n + 1 => (chiAt L T n).set n (chiV T n)
def rnd (L : List W6) (k : W6) : List W6 :=
  let C := chiAt L (turnAt L (sumsAt L 25) 25) 25
  C.set 0 (g C 0 ^^^ k)
def permAt (L : List W6) : Nat → List W6
  | 0 => L
  | n + 1 => rnd (permAt L n) (nums.getD n 0)
def perm (L : List W6) : List W6 := permAt L 24

theorem sumsAt_len (L : List W6) : ∀ n, (sumsAt L n).length = 5
  | 0 => rfl
  | n + 1 => by rw [sumsAt, List.length_set, sumsAt_len L n]
theorem turnAt_len (L S : List W6) : ∀ n, (turnAt L S n).length = 25
  | 0 => rfl
  | n + 1 => by rw [turnAt, List.length_set, turnAt_len L S n]
theorem chiAt_len (L T : List W6) : ∀ n, (chiAt L T n).length = L.length
  | 0 => rfl
  | n + 1 => by rw [chiAt, List.length_set, chiAt_len L T n]
theorem rnd_len (L : List W6) (k : W6) : (rnd L k).length = L.length := by
  unfold rnd
  rw [List.length_set, chiAt_len]
theorem permAt_len (L : List W6) : ∀ n, (permAt L n).length = L.length
  | 0 => rfl
  | n + 1 => by rw [permAt, rnd_len, permAt_len L n]
theorem perm_len (L : List W6) : (perm L).length = L.length := permAt_len L 24

/-! ### The reference's round -/
def sumR (L : List W6) (x : Nat) : W6 := g L x ^^^ g L (x + 5) ^^^ g L (x + 10) ^^^ g L (x + 15) ^^^ g L (x + 20)
def sumsR (L : List W6) : Nat → List W6
  | 0 => List.replicate 5 0
  | n + 1 => (sumsR L n).set n (sumR L n)
def colV (L C : List W6) (n : Nat) : W6 := g L (n / 5 + 5 * (n % 5)) ^^^ g C ((n / 5 + 4) % 5) ^^^ rot (g C ((n / 5 + 1) % 5)) 1
def colAt (L C : List W6) : Nat → List W6
  | 0 => L
  | n + 1 => (colAt L C n).set (n / 5 + 5 * (n % 5)) (colV L C n)
def colR (L : List W6) : List W6 := colAt L (sumsR L 5) 25
def movV (A : List W6) (n : Nat) : W6 := rot (g A (n / 5 + 5 * (n % 5))) (tur (n / 5 + 5 * (n % 5)))
def movAt (A : List W6) : Nat → List W6
  | 0 => List.replicate 25 0
  | n + 1 => (movAt A n).set (n % 5 + 5 * ((2 * (n / 5) + 3 * (n % 5)) % 5)) (movV A n)
def movR (A : List W6) : List W6 := movAt A 25
def mixV (A : List W6) (n : Nat) : W6 := g A (n / 5 + 5 * (n % 5)) ^^^ (~~~(g A ((n / 5 + 1) % 5 + 5 * (n % 5))) &&& g A ((n / 5 + 2) % 5 + 5 * (n % 5)))
def mixAt (A : List W6) : Nat → List W6
  | 0 => List.replicate 25 0
  | n + 1 => (mixAt A n).set (n / 5 + 5 * (n % 5)) (mixV A n)
def mixR (A : List W6) : List W6 := mixAt A 25
theorem colAt_len (L C : List W6) : ∀ n, (colAt L C n).length = L.length
  | 0 => rfl
  | n + 1 => by rw [colAt, List.length_set, colAt_len L C n]
theorem sumsR_len (L : List W6) : ∀ n, (sumsR L n).length = 5
  | 0 => rfl
  | n + 1 => by rw [sumsR, List.length_set, sumsR_len L n]
theorem movAt_len (A : List W6) : ∀ n, (movAt A n).length = 25
  | 0 => rfl
  | n + 1 => by rw [movAt, List.length_set, movAt_len A n]
theorem mixAt_len (A : List W6) : ∀ n, (mixAt A n).length = 25
  | 0 => rfl
  | n + 1 => by rw [mixAt, List.length_set, mixAt_len A n]

/-! ### Entries of lists that are written over, each place once -/
def setN (ix : Nat → Nat) (f : Nat → W6) (M : List W6) : Nat → List W6
  | 0 => M
  | n + 1 => (setN ix f M n).set (ix n) (f n)
theorem setN_len (ix : Nat → Nat) (f : Nat → W6) (M : List W6) : ∀ n, (setN ix f M n).length = M.length
  | 0 => rfl
  | n + 1 => by rw [setN, List.length_set, setN_len ix f M n]
theorem setN_get {ix : Nat → Nat} {f : Nat → W6} {M : List W6} : ∀ {n j : Nat}, (∀ a b, a < n → b < n → ix a = ix b → a = b) → j < n → ix j < M.length → g (setN ix f M n) (ix j) = f j
  | n + 1, j, hi, hj, hl => by
    rw [setN, g, List.getD_eq_getElem?_getD, List.getElem?_set]
    by_cases e : j = n
    · subst e
      rw [if_pos rfl, if_pos (by rw [setN_len]; exact hl)]; rfl
    · rw [if_neg (fun h => e (hi j n hj (by omega) h.symm)), ← List.getD_eq_getElem?_getD]
      exact setN_get (n := n) (fun a b ha hb => hi a b (by omega) (by omega)) (by omega) hl
theorem turnAt_setN (L S : List W6) : ∀ n, turnAt L S n = setN goe (turnV L S) (List.replicate 25 0) n
  | 0 => rfl
  | n + 1 => by rw [turnAt, setN, turnAt_setN L S n]
theorem chiAt_setN (L T : List W6) : ∀ n, chiAt L T n = setN id (chiV T) L n
  | 0 => rfl
  | n + 1 => by rw [chiAt, setN, chiAt_setN L T n]; rfl
def ixT (n : Nat) : Nat := n / 5 + 5 * (n % 5)
def ixM (n : Nat) : Nat := n % 5 + 5 * ((2 * (n / 5) + 3 * (n % 5)) % 5)
theorem colAt_setN (L C : List W6) : ∀ n, colAt L C n = setN ixT (colV L C) L n
  | 0 => rfl
  | n + 1 => by rw [colAt, setN, colAt_setN L C n]; rfl
theorem movAt_setN (A : List W6) : ∀ n, movAt A n = setN ixM (movV A) (List.replicate 25 0) n
  | 0 => rfl
  | n + 1 => by rw [movAt, setN, movAt_setN A n]; rfl
theorem mixAt_setN (A : List W6) : ∀ n, mixAt A n = setN ixT (mixV A) (List.replicate 25 0) n
  | 0 => rfl
  | n + 1 => by rw [mixAt, setN, mixAt_setN A n]; rfl
theorem goe_inj : ∀ a, a < 25 → ∀ b, b < 25 → goe a = goe b → a = b := by decide
theorem ixT_inj : ∀ a, a < 25 → ∀ b, b < 25 → ixT a = ixT b → a = b := by decide
theorem ixM_inj : ∀ a, a < 25 → ∀ b, b < 25 → ixM a = ixM b → a = b := by decide
theorem ixT_all : ∀ i, i < 25 → ∃ n, n < 25 ∧ ixT n = i := by decide
theorem ixM_all : ∀ i, i < 25 → ∃ n, n < 25 ∧ ixM n = i := by decide
theorem ixT_lt : ∀ n, n < 25 → ixT n < 25 := by decide
theorem ixM_lt : ∀ n, n < 25 → ixM n < 25 := by decide
theorem goe_ixT : ∀ n, n < 25 → goe (ixT n) = ixM n := by decide
theorem ext_g {A B : List W6} (ha : A.length = 25) (hb : B.length = 25) (h : ∀ i, i < 25 → g A i = g B i) : A = B := by
  refine List.ext_getElem (by omega) fun i h1 h2 => ?_
  have := h i (by omega)
  rw [g, g, List.getD_eq_getElem?_getD, List.getD_eq_getElem?_getD, List.getElem?_eq_getElem h1, List.getElem?_eq_getElem h2] at this
  exact this

theorem sums_same (L : List W6) : sumsAt L 25 = sumsR L 5 := by
  have h0 : sumsAt L 0 = [0, 0, 0, 0, 0] := rfl
  have h1 : sumsAt L 1 = [0 ^^^ g L 0, 0, 0, 0, 0] := by rw [show (1 : Nat) = 0 + 1 from rfl, sumsAt, h0]; rfl
  have h2 : sumsAt L 2 = [0 ^^^ g L 0, 0 ^^^ g L 1, 0, 0, 0] := by rw [show (2 : Nat) = 1 + 1 from rfl, sumsAt, h1]; rfl
  have h3 : sumsAt L 3 = [0 ^^^ g L 0, 0 ^^^ g L 1, 0 ^^^ g L 2, 0, 0] := by rw [show (3 : Nat) = 2 + 1 from rfl, sumsAt, h2]; rfl
  have h4 : sumsAt L 4 = [0 ^^^ g L 0, 0 ^^^ g L 1, 0 ^^^ g L 2, 0 ^^^ g L 3, 0] := by rw [show (4 : Nat) = 3 + 1 from rfl, sumsAt, h3]; rfl
  have h5 : sumsAt L 5 = [0 ^^^ g L 0, 0 ^^^ g L 1, 0 ^^^ g L 2, 0 ^^^ g L 3, 0 ^^^ g L 4] := by rw [show (5 : Nat) = 4 + 1 from rfl, sumsAt, h4]; rfl
  have h6 : sumsAt L 6 = [0 ^^^ g L 0 ^^^ g L 5, 0 ^^^ g L 1, 0 ^^^ g L 2, 0 ^^^ g L 3, 0 ^^^ g L 4] := by rw [show (6 : Nat) = 5 + 1 from rfl, sumsAt, h5]; rfl
  have h7 : sumsAt L 7 = [0 ^^^ g L 0 ^^^ g L 5, 0 ^^^ g L 1 ^^^ g L 6, 0 ^^^ g L 2, 0 ^^^ g L 3, 0 ^^^ g L 4] := by rw [show (7 : Nat) = 6 + 1 from rfl, sumsAt, h6]; rfl
  have h8 : sumsAt L 8 = [0 ^^^ g L 0 ^^^ g L 5, 0 ^^^ g L 1 ^^^ g L 6, 0 ^^^ g L 2 ^^^ g L 7, 0 ^^^ g L 3, 0 ^^^ g L 4] := by rw [show (8 : Nat) = 7 + 1 from rfl, sumsAt, h7]; rfl
  have h9 : sumsAt L 9 = [0 ^^^ g L 0 ^^^ g L 5, 0 ^^^ g L 1 ^^^ g L 6, 0 ^^^ g L 2 ^^^ g L 7, 0 ^^^ g L 3 ^^^ g L 8, 0 ^^^ g L 4] := by rw [show (9 : Nat) = 8 + 1 from rfl, sumsAt, h8]; rfl
  have h10 : sumsAt L 10 = [0 ^^^ g L 0 ^^^ g L 5, 0 ^^^ g L 1 ^^^ g L 6, 0 ^^^ g L 2 ^^^ g L 7, 0 ^^^ g L 3 ^^^ g L 8, 0 ^^^ g L 4 ^^^ g L 9] := by rw [show (10 : Nat) = 9 + 1 from rfl, sumsAt, h9]; rfl
  have h11 : sumsAt L 11 = [0 ^^^ g L 0 ^^^ g L 5 ^^^ g L 10, 0 ^^^ g L 1 ^^^ g L 6, 0 ^^^ g L 2 ^^^ g L 7, 0 ^^^ g L 3 ^^^ g L 8, 0 ^^^ g L 4 ^^^ g L 9] := by rw [show (11 : Nat) = 10 + 1 from rfl, sumsAt, h10]; rfl
  have h12 : sumsAt L 12 = [0 ^^^ g L 0 ^^^ g L 5 ^^^ g L 10, 0 ^^^ g L 1 ^^^ g L 6 ^^^ g L 11, 0 ^^^ g L 2 ^^^ g L 7, 0 ^^^ g L 3 ^^^ g L 8, 0 ^^^ g L 4 ^^^ g L 9] := by rw [show (12 : Nat) = 11 + 1 from rfl, sumsAt, h11]; rfl
  have h13 : sumsAt L 13 = [0 ^^^ g L 0 ^^^ g L 5 ^^^ g L 10, 0 ^^^ g L 1 ^^^ g L 6 ^^^ g L 11, 0 ^^^ g L 2 ^^^ g L 7 ^^^ g L 12, 0 ^^^ g L 3 ^^^ g L 8, 0 ^^^ g L 4 ^^^ g L 9] := by rw [show (13 : Nat) = 12 + 1 from rfl, sumsAt, h12]; rfl
  have h14 : sumsAt L 14 = [0 ^^^ g L 0 ^^^ g L 5 ^^^ g L 10, 0 ^^^ g L 1 ^^^ g L 6 ^^^ g L 11, 0 ^^^ g L 2 ^^^ g L 7 ^^^ g L 12, 0 ^^^ g L 3 ^^^ g L 8 ^^^ g L 13, 0 ^^^ g L 4 ^^^ g L 9] := by rw [show (14 : Nat) = 13 + 1 from rfl, sumsAt, h13]; rfl
  have h15 : sumsAt L 15 = [0 ^^^ g L 0 ^^^ g L 5 ^^^ g L 10, 0 ^^^ g L 1 ^^^ g L 6 ^^^ g L 11, 0 ^^^ g L 2 ^^^ g L 7 ^^^ g L 12, 0 ^^^ g L 3 ^^^ g L 8 ^^^ g L 13, 0 ^^^ g L 4 ^^^ g L 9 ^^^ g L 14] := by rw [show (15 : Nat) = 14 + 1 from rfl, sumsAt, h14]; rfl
  have h16 : sumsAt L 16 = [0 ^^^ g L 0 ^^^ g L 5 ^^^ g L 10 ^^^ g L 15, 0 ^^^ g L 1 ^^^ g L 6 ^^^ g L 11, 0 ^^^ g L 2 ^^^ g L 7 ^^^ g L 12, 0 ^^^ g L 3 ^^^ g L 8 ^^^ g L 13, 0 ^^^ g L 4 ^^^ g L 9 ^^^ g L 14] := by rw [show (16 : Nat) = 15 + 1 from rfl, sumsAt, h15]; rfl
  have h17 : sumsAt L 17 = [0 ^^^ g L 0 ^^^ g L 5 ^^^ g L 10 ^^^ g L 15, 0 ^^^ g L 1 ^^^ g L 6 ^^^ g L 11 ^^^ g L 16, 0 ^^^ g L 2 ^^^ g L 7 ^^^ g L 12, 0 ^^^ g L 3 ^^^ g L 8 ^^^ g L 13, 0 ^^^ g L 4 ^^^ g L 9 ^^^ g L 14] := by rw [show (17 : Nat) = 16 + 1 from rfl, sumsAt, h16]; rfl
  have h18 : sumsAt L 18 = [0 ^^^ g L 0 ^^^ g L 5 ^^^ g L 10 ^^^ g L 15, 0 ^^^ g L 1 ^^^ g L 6 ^^^ g L 11 ^^^ g L 16, 0 ^^^ g L 2 ^^^ g L 7 ^^^ g L 12 ^^^ g L 17, 0 ^^^ g L 3 ^^^ g L 8 ^^^ g L 13, 0 ^^^ g L 4 ^^^ g L 9 ^^^ g L 14] := by rw [show (18 : Nat) = 17 + 1 from rfl, sumsAt, h17]; rfl
  have h19 : sumsAt L 19 = [0 ^^^ g L 0 ^^^ g L 5 ^^^ g L 10 ^^^ g L 15, 0 ^^^ g L 1 ^^^ g L 6 ^^^ g L 11 ^^^ g L 16, 0 ^^^ g L 2 ^^^ g L 7 ^^^ g L 12 ^^^ g L 17, 0 ^^^ g L 3 ^^^ g L 8 ^^^ g L 13 ^^^ g L 18, 0 ^^^ g L 4 ^^^ g L 9 ^^^ g L 14] := by rw [show (19 : Nat) = 18 + 1 from rfl, sumsAt, h18]; rfl
  have h20 : sumsAt L 20 = [0 ^^^ g L 0 ^^^ g L 5 ^^^ g L 10 ^^^ g L 15, 0 ^^^ g L 1 ^^^ g L 6 ^^^ g L 11 ^^^ g L 16, 0 ^^^ g L 2 ^^^ g L 7 ^^^ g L 12 ^^^ g L 17, 0 ^^^ g L 3 ^^^ g L 8 ^^^ g L 13 ^^^ g L 18, 0 ^^^ g L 4 ^^^ g L 9 ^^^ g L 14 ^^^ g L 19] := by rw [show (20 : Nat) = 19 + 1 from rfl, sumsAt, h19]; rfl
  have h21 : sumsAt L 21 = [0 ^^^ g L 0 ^^^ g L 5 ^^^ g L 10 ^^^ g L 15 ^^^ g L 20, 0 ^^^ g L 1 ^^^ g L 6 ^^^ g L 11 ^^^ g L 16, 0 ^^^ g L 2 ^^^ g L 7 ^^^ g L 12 ^^^ g L 17, 0 ^^^ g L 3 ^^^ g L 8 ^^^ g L 13 ^^^ g L 18, 0 ^^^ g L 4 ^^^ g L 9 ^^^ g L 14 ^^^ g L 19] := by rw [show (21 : Nat) = 20 + 1 from rfl, sumsAt, h20]; rfl
  have h22 : sumsAt L 22 = [0 ^^^ g L 0 ^^^ g L 5 ^^^ g L 10 ^^^ g L 15 ^^^ g L 20, 0 ^^^ g L 1 ^^^ g L 6 ^^^ g L 11 ^^^ g L 16 ^^^ g L 21, 0 ^^^ g L 2 ^^^ g L 7 ^^^ g L 12 ^^^ g L 17, 0 ^^^ g L 3 ^^^ g L 8 ^^^ g L 13 ^^^ g L 18, 0 ^^^ g L 4 ^^^ g L 9 ^^^ g L 14 ^^^ g L 19] := by rw [show (22 : Nat) = 21 + 1 from rfl, sumsAt, h21]; rfl
  have h23 : sumsAt L 23 = [0 ^^^ g L 0 ^^^ g L 5 ^^^ g L 10 ^^^ g L 15 ^^^ g L 20, 0 ^^^ g L 1 ^^^ g L 6 ^^^ g L 11 ^^^ g L 16 ^^^ g L 21, 0 ^^^ g L 2 ^^^ g L 7 ^^^ g L 12 ^^^ g L 17 ^^^ g L 22, 0 ^^^ g L 3 ^^^ g L 8 ^^^ g L 13 ^^^ g L 18, 0 ^^^ g L 4 ^^^ g L 9 ^^^ g L 14 ^^^ g L 19] := by rw [show (23 : Nat) = 22 + 1 from rfl, sumsAt, h22]; rfl
  have h24 : sumsAt L 24 = [0 ^^^ g L 0 ^^^ g L 5 ^^^ g L 10 ^^^ g L 15 ^^^ g L 20, 0 ^^^ g L 1 ^^^ g L 6 ^^^ g L 11 ^^^ g L 16 ^^^ g L 21, 0 ^^^ g L 2 ^^^ g L 7 ^^^ g L 12 ^^^ g L 17 ^^^ g L 22, 0 ^^^ g L 3 ^^^ g L 8 ^^^ g L 13 ^^^ g L 18 ^^^ g L 23, 0 ^^^ g L 4 ^^^ g L 9 ^^^ g L 14 ^^^ g L 19] := by rw [show (24 : Nat) = 23 + 1 from rfl, sumsAt, h23]; rfl
  have h25 : sumsAt L 25 = [0 ^^^ g L 0 ^^^ g L 5 ^^^ g L 10 ^^^ g L 15 ^^^ g L 20, 0 ^^^ g L 1 ^^^ g L 6 ^^^ g L 11 ^^^ g L 16 ^^^ g L 21, 0 ^^^ g L 2 ^^^ g L 7 ^^^ g L 12 ^^^ g L 17 ^^^ g L 22, 0 ^^^ g L 3 ^^^ g L 8 ^^^ g L 13 ^^^ g L 18 ^^^ g L 23, 0 ^^^ g L 4 ^^^ g L 9 ^^^ g L 14 ^^^ g L 19 ^^^ g L 24] := by rw [show (25 : Nat) = 24 + 1 from rfl, sumsAt, h24]; rfl
  rw [h25]
  simp only [BitVec.ofNat_eq_ofNat, BitVec.zero_xor]
  rfl

theorem moved_same {L C : List W6} (h : L.length = 25) (hc : C.length = 5) : turnAt L C 25 = movR (colAt L C 25) := by
  refine ext_g (turnAt_len L C 25) (movAt_len _ 25) fun i hi => ?_
  obtain ⟨n, hn, rfl⟩ := ixM_all i hi
  have e1 : g (turnAt L C 25) (ixM n) = turnV L C (ixT n) := by
    rw [turnAt_setN, ← goe_ixT n hn]
    exact setN_get (fun a b ha hb => goe_inj a ha b hb) (ixT_lt n hn) (by rw [goe_ixT n hn, List.length_replicate]; exact hi)
  have e2 : g (movR (colAt L C 25)) (ixM n) = movV (colAt L C 25) n := by
    rw [movR, movAt_setN]
    exact setN_get (fun a b ha hb => ixM_inj a ha b hb) hn (by rw [List.length_replicate]; exact hi)
  have e3 : g (colAt L C 25) (ixT n) = colV L C n := by
    rw [colAt_setN]
    exact setN_get (fun a b ha hb => ixT_inj a ha b hb) hn (by rw [h]; exact ixT_lt n hn)
  rw [e1, e2, movV, show n / 5 + 5 * (n % 5) = ixT n from rfl, e3, turnV, colV, ← BitVec.xor_assoc]
  rw [show n / 5 + 5 * (n % 5) = ixT n from rfl, show (ixT n + 4) % 5 = (n / 5 + 4) % 5 by unfold ixT; omega, show (ixT n + 1) % 5 = (n / 5 + 1) % 5 by unfold ixT; omega]

theorem mixed_same {L T : List W6} (h : L.length = 25) : chiAt L T 25 = mixR T := by
  refine ext_g (by rw [chiAt_len, h]) (mixAt_len _ 25) fun i hi => ?_
  obtain ⟨n, hn, rfl⟩ := ixT_all i hi
  have e1 : g (chiAt L T 25) (ixT n) = chiV T (ixT n) := by
    rw [chiAt_setN]
    exact setN_get (ix := id) (fun a b _ _ e => e) hi (by rw [h]; exact hi)
  have e2 : g (mixR T) (ixT n) = mixV T n := by
    rw [mixR, mixAt_setN]
    exact setN_get (fun a b ha hb => ixT_inj a ha b hb) hn (by rw [List.length_replicate]; exact hi)
  rw [e1, e2, chiV, mixV, show n / 5 + 5 * (n % 5) = ixT n from rfl]
  rw [show 5 * (ixT n / 5) + (ixT n % 5 + 1) % 5 = (n / 5 + 1) % 5 + 5 * (n % 5) by unfold ixT; omega, show 5 * (ixT n / 5) + (ixT n % 5 + 2) % 5 = (n / 5 + 2) % 5 + 5 * (n % 5) by unfold ixT; omega]

def rndR (L : List W6) (k : W6) : List W6 := let C := mixR (movR (colR L)); C.set 0 (g C 0 ^^^ k)
theorem rnd_same {L : List W6} (h : L.length = 25) (k : W6) : rnd L k = rndR L k := by
  unfold rnd rndR colR
  rw [sums_same, moved_same h (sumsR_len L 5), mixed_same h]

end Go.Eng
