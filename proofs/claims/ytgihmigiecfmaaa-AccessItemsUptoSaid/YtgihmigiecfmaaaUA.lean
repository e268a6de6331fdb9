/-
  Numbers of 256 bits as four cells, and small facts. No condition.
  u256.From and u256.Sub: the number; the difference and the borrow. No condition beyond the range of the words.
  u256.Cmp tells the order of two numbers. No condition.
  The reference reads a number as eight digits of 32 bits. No condition.
  The reference joins eight digits of 32 bits to a number. Condition: each digit is below 2^32.
  Numbers by digits of 32 bits: facts. No condition.
  The reference subtracts as u256.Sub does: the difference and the borrow. No condition.
  The reference tells a number that fits one word; num tells a number. No condition.
  Small facts of numbers: what the evaluator's reckoning is on naturals. Conditions: the ranges of the kinds.
  u256.Shr by one place halves the number. No condition.
  The reference's Bit and with: a bit of a number; the number with a bit set. Conditions: the place is an index where it must be.
  The reference's Shl and Shr (moved bit by bit), at whatever number of places. No condition beyond the range -255 .. 255.
  tx.Chain tells the chain that a legacy V names; the reference tells the same; the law TxChains returns true. No condition.
  The access list as plain data: an entry is an address, its keys and what stands in the room behind them; small facts of numbers and bytes. No condition.
  sameKeys answers whether two lists of keys are the same. Condition: at most 2^40 keys.
  sameList answers whether two access lists are the same. Condition: at most 2^40 entries, of at most 2^40 keys each.
  twin hands back the list anew, with a mark behind its end and behind each entry's keys. Condition: at most 2^40 entries, of at most 2^40 keys each.
  Authorizations and transactions as plain data; equality of cells. No program in sight. No condition.
-/
import Derived.Test.YtgihmigiecfmaaaEngP
namespace Go.Eng
open Go Go.Proofs

/-- The four cells of a number. -/
def w4 (n : Nat) : List Value := [.int .u64 (n % 18446744073709551616 : Nat), .int .u64 (n / 18446744073709551616 % 18446744073709551616 : Nat), .int .u64 (n / 340282366920938463463374607431768211456 % 18446744073709551616 : Nat),
  .int .u64 (n / 6277101735386680763835789423207666416102355444464034512896 % 18446744073709551616 : Nat)]

/-- What four cells are worth. -/
def v4 (a b c d : Nat) : Nat := a + 18446744073709551616 * b + 340282366920938463463374607431768211456 * c + 6277101735386680763835789423207666416102355444464034512896 * d

theorem w4_v4 {a b c d : Nat} (ha : a < 18446744073709551616) (hb : b < 18446744073709551616) (hc : c < 18446744073709551616) (hd : d < 18446744073709551616) : w4 (v4 a b c d) = [.int .u64 a, .int .u64 b, .int .u64 c, .int .u64 d] := by
  have e0 : v4 a b c d % 18446744073709551616 = a := by unfold v4; omega
  have e1 : v4 a b c d / 18446744073709551616 % 18446744073709551616 = b := by unfold v4; omega
  have e2 : v4 a b c d / 340282366920938463463374607431768211456 % 18446744073709551616 = c := by unfold v4; omega
  have e3 : v4 a b c d / 6277101735386680763835789423207666416102355444464034512896 % 18446744073709551616 = d := by unfold v4; omega
  unfold w4
  rw [e0, e1, e2, e3]

theorem v4_of (n : Nat) (h : n < 115792089237316195423570985008687907853269984665640564039457584007913129639936) :
    ∃ a b c d : Nat, a < 18446744073709551616 ∧ b < 18446744073709551616 ∧ c < 18446744073709551616 ∧ d < 18446744073709551616 ∧ n = v4 a b c d :=
  ⟨n % 18446744073709551616, n / 18446744073709551616 % 18446744073709551616, n / 340282366920938463463374607431768211456 % 18446744073709551616, n / 6277101735386680763835789423207666416102355444464034512896 % 18446744073709551616,
    by omega, by omega, by omega, by omega, by unfold v4; omega⟩

abbrev pw (n : Nat) : PR := .a [.r 4 (w4 n)]
abbrev M256 : Nat := 115792089237316195423570985008687907853269984665640564039457584007913129639936

end Go.Eng
namespace Go.Eng
open Go Go.Proofs
set_option maxRecDepth 100000
theorem u256From_sound : Sound Try.prog 46 fun args k => ∃ n : Nat, args = [.s (.v (.int .u64 n))] ∧ n < 18446744073709551616 ∧ k [pw n] := by
  refine Sound.of_body tt_ok ent_ok Try.func46 rfl ?_
  rintro ar har Γ hΓ args k ⟨n, rfl, hn, hk⟩
  obtain ⟨z, hz⟩ : ∃ z : Int, z = n := ⟨_, rfl⟩
  have e : w4 n = [.int .u64 z, .int .u64 0, .int .u64 0, .int .u64 0] := by
    have := w4_v4 (a := n) (b := 0) (c := 0) (d := 0) hn (by omega) (by omega) (by omega)
    rw [hz]
    simpa [v4] using this
  rw [← hz]
  unfold pw at hk
  rw [e] at hk
  cbv
  exact hk

theorem sub_step {a b c : Nat} (ha : a < 18446744073709551616) (hb : b < 18446744073709551616) (hc : c ≤ 1) :
    ∃ d e : Nat, extOp 1 [(a : Int), b, c] = d ∧ extOp 2 [(a : Int), b, c] = e ∧ d < 18446744073709551616 ∧ e ≤ 1 ∧ d + b + c = a + 18446744073709551616 * e := by
  refine ⟨_, _, rfl, rfl, ?_, ?_, ?_⟩ <;> simp only [Int.toNat_natCast]
  · omega
  · split <;> omega
  · split <;> omega

theorem sub_fin {D M N c : Nat} (h : D + M = N + M256 * c) (hD : D < M256) (_hN : N < M256) (hc : c ≤ 1) : (N + M256 - M) % M256 = D ∧ (if N < M then 1 else 0) = c := by
  generalize M256 = Q at *
  have : c = 0 ∨ c = 1 := by omega
  rcases this with rfl | rfl
  · rw [Nat.mul_zero, Nat.add_zero] at h
    rw [show N + Q - M = D + Q by omega, Nat.add_mod_right, Nat.mod_eq_of_lt hD]
    exact ⟨rfl, by rw [if_neg (by omega)]⟩
  · rw [Nat.mul_one] at h
    rw [show N + Q - M = D by omega, Nat.mod_eq_of_lt hD]
    exact ⟨rfl, by rw [if_pos (by omega)]⟩

end Go.Eng
namespace Go.Eng
open Go Go.Proofs
set_option maxRecDepth 100000

theorem ints_w4 (n : Nat) : ints .u64 (w4 n) := by
  intro w hw
  simp only [w4, List.mem_cons, List.not_mem_nil, or_false] at hw
  rcases hw with rfl | rfl | rfl | rfl <;> exact ⟨_, rfl⟩

theorem eqVals_w4 {n m : Nat} (hn : n < M256) (hm : m < M256) : eqVals (w4 n) (w4 m) = decide (n = m) := by
  by_cases h : n = m
  · subst h
    simp [w4, eqVals, intEq]
  · rw [decide_eq_false h]
    obtain ⟨a0, a1, a2, a3, ha0, ha1, ha2, ha3, rfl⟩ := v4_of n hn
    obtain ⟨b0, b1, b2, b3, hb0, hb1, hb2, hb3, rfl⟩ := v4_of m hm
    rw [w4_v4 ha0 ha1 ha2 ha3, w4_v4 hb0 hb1 hb2 hb3]
    simp only [eqVals, intEq, beq_self_eq_true, Bool.true_and, Bool.and_true]
    rw [Bool.eq_false_iff]
    intro e
    simp only [Bool.and_eq_true, beq_iff_eq] at e
    obtain ⟨e0, e1, e2, e3⟩ := e
    have : a0 = b0 := by omega
    have : a1 = b1 := by omega
    have : a2 = b2 := by omega
    have : a3 = b3 := by omega
    subst a0 a1 a2 a3
    exact h rfl

def cmpN (n m : Nat) : Int := if n = m then 0 else if n < m then -1 else 1

end Go.Eng
namespace Go.Eng
open Go Go.Proofs
set_option maxRecDepth 100000

/-- The eight digits of 32 bits of a number. -/
def d8 (n : Nat) : List Value := [.int .u64 (n % 4294967296 : Nat), .int .u64 (n / 4294967296 % 4294967296 : Nat), .int .u64 (n / 18446744073709551616 % 4294967296 : Nat), .int .u64 (n / 79228162514264337593543950336 % 4294967296 : Nat), .int .u64 (n / 340282366920938463463374607431768211456 % 4294967296 : Nat), .int .u64 (n / 1461501637330902918203684832716283019655932542976 % 4294967296 : Nat), .int .u64 (n / 6277101735386680763835789423207666416102355444464034512896 % 4294967296 : Nat), .int .u64 (n / 26959946667150639794667015087019630673637144422540572481103610249216 % 4294967296 : Nat)]

theorem d8_v4 {a b c d : Nat} (ha : a < 18446744073709551616) (hb : b < 18446744073709551616) (hc : c < 18446744073709551616) (hd : d < 18446744073709551616) :
    d8 (v4 a b c d) = [.int .u64 (a % 4294967296 : Nat), .int .u64 (a / 4294967296 : Nat), .int .u64 (b % 4294967296 : Nat), .int .u64 (b / 4294967296 : Nat), .int .u64 (c % 4294967296 : Nat), .int .u64 (c / 4294967296 : Nat), .int .u64 (d % 4294967296 : Nat), .int .u64 (d / 4294967296 : Nat)] := by
  have e0 : v4 a b c d % 4294967296 = a % 4294967296 := by unfold v4; omega
  have e1 : v4 a b c d / 4294967296 % 4294967296 = a / 4294967296 := by unfold v4; omega
  have e2 : v4 a b c d / 18446744073709551616 % 4294967296 = b % 4294967296 := by unfold v4; omega
  have e3 : v4 a b c d / 79228162514264337593543950336 % 4294967296 = b / 4294967296 := by unfold v4; omega
  have e4 : v4 a b c d / 340282366920938463463374607431768211456 % 4294967296 = c % 4294967296 := by unfold v4; omega
  have e5 : v4 a b c d / 1461501637330902918203684832716283019655932542976 % 4294967296 = c / 4294967296 := by unfold v4; omega
  have e6 : v4 a b c d / 6277101735386680763835789423207666416102355444464034512896 % 4294967296 = d % 4294967296 := by unfold v4; omega
  have e7 : v4 a b c d / 26959946667150639794667015087019630673637144422540572481103610249216 % 4294967296 = d / 4294967296 := by unfold v4; omega
  unfold d8
  rw [e0, e1, e2, e3, e4, e5, e6, e7]

abbrev pd (n : Nat) : PR := .a [.r 8 (d8 n)]

theorem wrap_u64 {n : Nat} (h : n < 18446744073709551616) : IntKind.u64.wrap (n : Int) = n := by
  have e : IntKind.u64.wrap (n : Int) = (n : Int) % 18446744073709551616 := by simp [IntKind.wrap, IntKind.bits, IntKind.signed]
  rw [e]; omega

theorem ib_rem {a : Nat} (m : Nat) : intB .rem .u64 (a : Int) (m : Int) = ((a % m : Nat) : Int) := by
  simp only [intB]
  rw [Int.tmod_eq_emod_of_nonneg (by omega)]
  omega

theorem ib_quo {a m : Nat} (h : a < 18446744073709551616) : intB .quo .u64 (a : Int) (m : Int) = ((a / m : Nat) : Int) := by
  simp only [intB]
  rw [Int.tdiv_eq_ediv_of_nonneg (by omega), ← Int.natCast_ediv]
  exact wrap_u64 (Nat.lt_of_le_of_lt (Nat.div_le_self a m) h)

end Go.Eng
namespace Go.Eng
open Go Go.Proofs
set_option maxRecDepth 100000

theorem ib_mul {a m : Nat} (h : m * a < 18446744073709551616) : intB .mul .u64 (m : Int) (a : Int) = ((m * a : Nat) : Int) := by
  simp only [intB]
  rw [← Int.natCast_mul]
  exact wrap_u64 h

theorem ib_add {a b : Nat} (h : a + b < 18446744073709551616) : intB .add .u64 (a : Int) (b : Int) = ((a + b : Nat) : Int) := by
  simp only [intB]
  rw [← Int.natCast_add]
  exact wrap_u64 h

end Go.Eng
namespace Go.Eng
open Go Go.Proofs
set_option maxRecDepth 100000

def n64s (l : List Nat) : List Value := l.map fun n : Nat => .int .u64 (n : Int)
/-- What digits of 32 bits are worth, the lowest first. -/
def val32 : List Nat → Nat
  | [] => 0
  | x :: l => x + 4294967296 * val32 l
def digs (n : Nat) : List Nat := [n % 4294967296, n / 4294967296 % 4294967296, n / 18446744073709551616 % 4294967296, n / 79228162514264337593543950336 % 4294967296, n / 340282366920938463463374607431768211456 % 4294967296, n / 1461501637330902918203684832716283019655932542976 % 4294967296, n / 6277101735386680763835789423207666416102355444464034512896 % 4294967296, n / 26959946667150639794667015087019630673637144422540572481103610249216 % 4294967296]

theorem d8_digs (n : Nat) : d8 n = n64s (digs n) := rfl
theorem digs_len (n : Nat) : (digs n).length = 8 := rfl
theorem digs_lt (n : Nat) : ∀ x ∈ digs n, x < 4294967296 := by
  intro x hx
  simp only [digs, List.mem_cons, List.not_mem_nil, or_false] at hx
  rcases hx with rfl | rfl | rfl | rfl | rfl | rfl | rfl | rfl <;> omega
theorem val_digs {n : Nat} (h : n < M256) : val32 (digs n) = n := by
  simp only [digs, val32]
  unfold M256 at h
  omega
theorem val_snoc (l : List Nat) (x : Nat) : val32 (l ++ [x]) = val32 l + 4294967296 ^ l.length * x := by
  induction l with
  | nil => simp [val32]
  | cons y l ih => simp only [List.cons_append, val32, ih, List.length_cons, Nat.pow_succ, Nat.mul_add]; rw [Nat.mul_comm (4294967296 ^ l.length) 4294967296, Nat.mul_assoc]; omega

theorem val_step {A B C E b x y r b' : Nat} (h : A + B = C + E * b) (hr : r + y + b = x + 4294967296 * b') : A + E * r + (B + E * y) = C + E * x + E * 4294967296 * b' := by
  have h1 : E * r + E * y + E * b = E * x + E * 4294967296 * b' := by
    rw [← Nat.mul_add, ← Nat.mul_add, hr, Nat.mul_add, Nat.mul_assoc]
  omega
end Go.Eng
namespace Go.Eng
open Go Go.Proofs
set_option maxRecDepth 100000

/-- Where the reference's subtraction stands after p rounds. -/
def SubI (xs ys : List Nat) (q : Nat × Int × List Value × Int) : Prop :=
  q.1 ≤ 8 ∧ q.2.1 = q.1 ∧ ∃ (rs : List Nat) (b : Nat), q.2.2.2 = b ∧ b ≤ 1 ∧ rs.length = q.1 ∧ (∀ r ∈ rs, r < 4294967296) ∧ q.2.2.1 = n64s (rs ++ xs.drop q.1) ∧
    val32 rs + val32 (ys.take q.1) = val32 (xs.take q.1) + 4294967296 ^ q.1 * b

theorem SubI.next {xs ys : List Nat} {p : Nat} {pi' b'' : Int} {Z' : List Value} {rs : List Nat} {u w b r b' : Nat} (hp : p < 8) (hrl : rs.length = p) (hrb : ∀ r ∈ rs, r < 4294967296) (hu : xs[p]? = some u) (hw : ys[p]? = some w) (ly : ys.length = 8) (lx : xs.length = 8)
    (hval : val32 rs + val32 (ys.take p) = val32 (xs.take p) + 4294967296 ^ p * b) (hr : r + w + b = u + 4294967296 * b') (hr32 : r < 4294967296) (hb : b' ≤ 1) (hpi : pi' = ((p + 1 : Nat) : Int)) (hbb : b'' = b') (hZ : Z' = n64s (rs ++ r :: xs.drop (p + 1))) :
    SubI xs ys (p + 1, pi', Z', b'') := by
  refine ⟨hp, hpi, rs ++ [r], b', hbb, hb, by simp [hrl], fun q hq => ?_, by simp [hZ], ?_⟩
  · rcases List.mem_append.1 hq with hq | hq
    · exact hrb q hq
    · rw [List.mem_singleton.1 hq]; exact hr32
  · have tx : xs.take (p + 1) = xs.take p ++ [u] := by rw [List.take_add_one, hu]; rfl
    have ty : ys.take (p + 1) = ys.take p ++ [w] := by rw [List.take_add_one, hw]; rfl
    have l1 : (xs.take p).length = p := by rw [List.length_take, lx]; omega
    have l2 : (ys.take p).length = p := by rw [List.length_take, ly]; omega
    rw [tx, ty, val_snoc, val_snoc, val_snoc, hrl, l1, l2, Nat.pow_succ]
    exact val_step hval hr

theorem ib_sub {a b : Nat} (h : b ≤ a) (ha : a < 18446744073709551616) : intB .sub .u64 (a : Int) (b : Int) = ((a - b : Nat) : Int) := by
  simp only [intB]
  rw [← Int.ofNat_sub h]
  exact wrap_u64 (by omega)

theorem set_at {rs xs : List Nat} {p u r : Nat} (hrl : rs.length = p) (hu : xs[p]? = some u) : (n64s (rs ++ xs.drop p)).set p (.int .u64 (r : Int)) = n64s (rs ++ r :: xs.drop (p + 1)) := by
  obtain ⟨h, e⟩ := List.getElem?_eq_some_iff.1 hu
  rw [List.drop_eq_getElem_cons h, n64s, n64s, List.map_append, List.map_append, List.map_cons, List.map_cons, List.set_append_right _ _ (by simp [hrl]), List.length_map, hrl, Nat.sub_self]
  rfl

theorem wrapi_small {n : Int} (h : -9223372036854775808 ≤ n ∧ n ≤ 9223372036854775807) : IntKind.i64.wrap n = n := by
  have e : IntKind.i64.wrap n = if n % 18446744073709551616 ≥ 9223372036854775808 then n % 18446744073709551616 - 18446744073709551616 else n % 18446744073709551616 := by
    simp [IntKind.wrap, IntKind.bits, IntKind.signed]
  rw [e]; split <;> omega

end Go.Eng
namespace Go.Eng
open Go Go.Proofs
set_option maxRecDepth 100000

def smallW (n : Nat) : Int := if n < 18446744073709551616 then n else 0
def smallE (n : Nat) : Int := if n < 18446744073709551616 then 0 else 11

end Go.Eng
namespace Go.Eng
open Go Go.Proofs

theorem wrapU {n : Int} : IntKind.u64.wrap n = n % 18446744073709551616 := by
  simp [IntKind.wrap, IntKind.bits, IntKind.signed]
theorem wrapB {n : Int} : IntKind.u8.wrap n = n % 256 := by
  simp [IntKind.wrap, IntKind.bits, IntKind.signed]
theorem bv_u64 {n : Nat} (h : n < 18446744073709551616) : (BitVec.ofInt 64 (n : Int)).toNat = n := by
  rw [BitVec.toNat_ofInt]; omega
theorem bv_u8 {n : Nat} (h : n < 256) : (BitVec.ofInt 8 (n : Int)).toNat = n := by
  rw [BitVec.toNat_ofInt]; omega
theorem ib_or64 {a b : Nat} (ha : a < 18446744073709551616) (hb : b < 18446744073709551616) : intB .or .u64 (a : Int) (b : Int) = ((a ||| b : Nat) : Int) := by
  show IntKind.u64.wrap ((BitVec.ofInt 64 (a : Int) ||| BitVec.ofInt 64 (b : Int)).toNat : Int) = _
  rw [wrapU, BitVec.toNat_or, bv_u64 ha, bv_u64 hb]
  have := Nat.or_lt_two_pow (n := 64) ha hb
  omega
theorem ib_and64 {a b : Nat} (ha : a < 18446744073709551616) (hb : b < 18446744073709551616) : intB .and .u64 (a : Int) (b : Int) = ((a &&& b : Nat) : Int) := by
  show IntKind.u64.wrap ((BitVec.ofInt 64 (a : Int) &&& BitVec.ofInt 64 (b : Int)).toNat : Int) = _
  rw [wrapU, BitVec.toNat_and, bv_u64 ha, bv_u64 hb]
  have := Nat.and_lt_two_pow (n := 64) a hb
  omega
theorem ib_xor64 {a b : Nat} (ha : a < 18446744073709551616) (hb : b < 18446744073709551616) : intB .xor .u64 (a : Int) (b : Int) = ((a ^^^ b : Nat) : Int) := by
  show IntKind.u64.wrap ((BitVec.ofInt 64 (a : Int) ^^^ BitVec.ofInt 64 (b : Int)).toNat : Int) = _
  rw [wrapU, BitVec.toNat_xor, bv_u64 ha, bv_u64 hb]
  have := Nat.xor_lt_two_pow (n := 64) ha hb
  omega
theorem ib_shr64 {k : IntKind} {a s : Nat} (hs : s ≤ k.bits) : intB .shr k (a : Int) (s : Int) = ((a / 2 ^ s : Nat) : Int) := by
  simp only [intB, Int.toNat_natCast]
  rw [show min s k.bits = s from Nat.min_eq_left hs]
  rw [Int.fdiv_eq_ediv_of_nonneg _ (by exact Int.pow_nonneg (by omega))]
  simp
theorem ib_shl64 {a s : Nat} (hs : s ≤ 64) : intB .shl .u64 (a : Int) (s : Int) = ((a * 2 ^ s % 18446744073709551616 : Nat) : Int) := by
  simp only [intB, Int.toNat_natCast, wrapU]
  rw [show min s IntKind.u64.bits = s from Nat.min_eq_left hs]
  simp
/-- Two bit fields that do not meet, laid into one word. -/
theorem or_add {a b s : Nat} (ha : a < 2 ^ s) : a ||| (b * 2 ^ s) = a + b * 2 ^ s := by
  have := Nat.shiftLeft_add_eq_or_of_lt ha b
  rw [Nat.shiftLeft_eq] at this
  rw [Nat.or_comm, ← this, Nat.add_comm]

end Go.Eng
namespace Go.Eng
open Go Go.Proofs
set_option maxRecDepth 100000

theorem shr1_word {a b : Nat} (ha : a < 18446744073709551616) (_hb : b < 18446744073709551616) :
    intB .or .u64 (intB .shr .u64 (a : Int) 1) (intB .shl .u64 (b : Int) 63) = ((a / 2 + b % 2 * 9223372036854775808 : Nat) : Int) := by
  have h1 := ib_shr64 (k := .u64) (a := a) (s := 1) (by decide)
  have h2 := ib_shl64 (a := b) (s := 63) (by omega)
  rw [show ((1 : Nat) : Int) = 1 from rfl] at h1
  rw [show ((63 : Nat) : Int) = 63 from rfl] at h2
  rw [h1, h2]
  have e : b * 2 ^ 63 % 18446744073709551616 = (b % 2) * 2 ^ 63 := by omega
  rw [e, ib_or64 (by omega) (by omega), or_add (by omega)]

theorem shr1_top {a : Nat} : intB .shr .u64 (a : Int) 1 = ((a / 2 : Nat) : Int) := by
  have h1 := ib_shr64 (k := .u64) (a := a) (s := 1) (by decide)
  rw [show ((1 : Nat) : Int) = 1 from rfl] at h1
  rw [h1]

theorem half_v4 {a b c d : Nat} : v4 a b c d / 2 = v4 (a / 2 + b % 2 * 9223372036854775808) (b / 2 + c % 2 * 9223372036854775808) (c / 2 + d % 2 * 9223372036854775808) (d / 2) := by
  unfold v4; omega

end Go.Eng
namespace Go.Eng
open Go Go.Proofs
set_option maxRecDepth 100000

theorem w4_get (n : Nat) {j : Nat} (hj : j < 4) : (w4 n)[j]? = some (.int .u64 ((n / 2 ^ (64 * j) % 18446744073709551616 : Nat) : Int)) := by
  match j, hj with
  | 0, _ => simp [w4]
  | 1, _ => rfl
  | 2, _ => rfl
  | 3, _ => rfl

theorem ints_get (n : Nat) : ∀ w ∈ w4 n, ∃ z : Int, w = .int .u64 z := ints_w4 n

/-- A bit, as a number. -/
def bitN (n : Nat) (i : Int) : Nat := if 0 ≤ i ∧ i ≤ 255 then n / 2 ^ i.toNat % 2 else 0

theorem bit_word (n p : Nat) : n / 2 ^ (64 * (p / 64)) % 18446744073709551616 / 2 ^ (p % 64) % 2 = n / 2 ^ p % 2 := by
  have h : (n / 2 ^ (64 * (p / 64)) % 2 ^ 64).testBit (p % 64) = n.testBit p := by
    rw [Nat.testBit_mod_two_pow, Nat.testBit_div_two_pow, show p % 64 + 64 * (p / 64) = p by omega, decide_eq_true (show p % 64 < 64 by omega), Bool.true_and]
  have e : ∀ m q : Nat, m / 2 ^ q % 2 = (m.testBit q).toNat := fun m q => by
    rw [Nat.testBit_eq_decide_div_mod_eq]
    have : m / 2 ^ q % 2 = 0 ∨ m / 2 ^ q % 2 = 1 := by omega
    rcases this with h | h <;> simp [h]
  rw [e, e, ← h]

theorem word_bit (n j q : Nat) (hq : q < 64) : (n / 2 ^ (64 * j) % 18446744073709551616).testBit q = n.testBit (64 * j + q) := by
  have := Nat.testBit_mod_two_pow (n / 2 ^ (64 * j)) 64 q
  rw [show (18446744073709551616 : Nat) = 2 ^ 64 from rfl, this, Nat.testBit_div_two_pow, decide_eq_true hq, Bool.true_and]
  congr 1; omega

/-- One bit more in one of the four words. -/
theorem w4_with (n p : Nat) (_hp : p < 256) : (w4 n).set (p / 64) (.int .u64 (((n / 2 ^ (64 * (p / 64)) % 18446744073709551616) ||| 2 ^ (p % 64) : Nat) : Int)) = w4 (n ||| 2 ^ p) := by
  refine List.ext_getElem? fun j => ?_
  have hlen : (w4 n).length = 4 := rfl
  rcases Nat.lt_or_ge j 4 with hj | hj
  · rw [w4_get _ hj, List.getElem?_set, hlen]
    by_cases e : p / 64 = j
    · rw [if_pos e, if_pos (by omega)]
      subst e
      congr 4
      refine Nat.eq_of_testBit_eq fun q => ?_
      rcases Nat.lt_or_ge q 64 with hq | hq
      · rw [Nat.testBit_or, word_bit _ _ _ hq, word_bit _ _ _ hq, Nat.testBit_or, Nat.testBit_two_pow, Nat.testBit_two_pow]
        congr 1
        rw [decide_eq_decide]; omega
      · rw [Nat.testBit_lt_two_pow (x := (n ||| 2 ^ p) / 2 ^ (64 * (p / 64)) % 18446744073709551616) (Nat.lt_of_lt_of_le (Nat.mod_lt _ (by omega)) (Nat.pow_le_pow_right (n := 2) (by omega) hq))]
        rw [Nat.testBit_or, Nat.testBit_two_pow, decide_eq_false (by omega), Bool.or_false]
        exact Nat.testBit_lt_two_pow (Nat.lt_of_lt_of_le (Nat.mod_lt _ (by omega)) (Nat.pow_le_pow_right (n := 2) (by omega) hq))
    · rw [if_neg e, w4_get _ hj]
      refine congrArg (fun z : Nat => some (Value.int .u64 (z : Int))) ?_
      refine Nat.eq_of_testBit_eq fun q => ?_
      rcases Nat.lt_or_ge q 64 with hq | hq
      · rw [word_bit _ _ _ hq, word_bit _ _ _ hq, Nat.testBit_or, Nat.testBit_two_pow, decide_eq_false (by omega), Bool.or_false]
      · rw [Nat.testBit_lt_two_pow (x := (n ||| 2 ^ p) / 2 ^ (64 * j) % 18446744073709551616) (Nat.lt_of_lt_of_le (Nat.mod_lt _ (by omega)) (Nat.pow_le_pow_right (n := 2) (by omega) hq))]
        exact Nat.testBit_lt_two_pow (Nat.lt_of_lt_of_le (Nat.mod_lt _ (by omega)) (Nat.pow_le_pow_right (n := 2) (by omega) hq))
  · rw [List.getElem?_eq_none (by simp [hlen]; omega), List.getElem?_eq_none (by show (w4 _).length ≤ j; exact hj)]

end Go.Eng
namespace Go.Eng
open Go Go.Proofs
set_option maxRecDepth 100000

/-- The number moved up by s places (down, where s is below 0). -/
def shlN (n : Nat) (s : Int) : Nat := if 0 ≤ s then n * 2 ^ s.toNat % 2 ^ 256 else n / 2 ^ (-s).toNat

theorem shlN_bit {n : Nat} (hn : n < 2 ^ 256) {s : Int} (hs : -255 ≤ s ∧ s ≤ 255) {p : Nat} (hp : p < 256) : bitN n ((p : Int) - s) = ((shlN n s).testBit p).toNat := by
  have e : ∀ m q : Nat, m / 2 ^ q % 2 = (m.testBit q).toNat := fun m q => by
    rw [Nat.testBit_eq_decide_div_mod_eq]
    have : m / 2 ^ q % 2 = 0 ∨ m / 2 ^ q % 2 = 1 := by omega
    rcases this with h | h <;> simp [h]
  unfold bitN shlN
  by_cases h0 : 0 ≤ s
  · rw [if_pos h0]
    obtain ⟨t, ht⟩ : ∃ t : Nat, s = t := ⟨s.toNat, by omega⟩
    subst ht
    rw [Int.toNat_natCast, Nat.testBit_mod_two_pow, decide_eq_true hp, Bool.true_and, ← Nat.shiftLeft_eq, Nat.testBit_shiftLeft]
    by_cases hc : t ≤ p
    · rw [if_pos (by omega), e, decide_eq_true (show p ≥ t from hc), Bool.true_and, show ((p : Int) - t).toNat = p - t by omega]
    · rw [if_neg (by omega), decide_eq_false (by omega)]; rfl
  · rw [if_neg h0]
    obtain ⟨t, ht⟩ : ∃ t : Nat, s = -(t : Int) := ⟨(-s).toNat, by omega⟩
    subst ht
    rw [show (- -(t : Int)).toNat = t by omega, Nat.testBit_div_two_pow]
    by_cases hc : p + t ≤ 255
    · rw [if_pos (by omega), e, show ((p : Int) - -(t : Int)).toNat = p + t by omega]
    · rw [if_neg (by omega), Nat.testBit_lt_two_pow (Nat.lt_of_lt_of_le hn (Nat.pow_le_pow_right (by omega) (by omega)))]; rfl

theorem mod_succ_bit (m p : Nat) : m % 2 ^ (p + 1) = if m.testBit p then (m % 2 ^ p) ||| 2 ^ p else m % 2 ^ p := by
  refine Nat.eq_of_testBit_eq fun q => ?_
  split
  · rename_i h
    rw [Nat.testBit_or, Nat.testBit_mod_two_pow, Nat.testBit_mod_two_pow, Nat.testBit_two_pow]
    by_cases e : p = q
    · subst e; simp [h]
    · simp only [decide_eq_false e, Bool.or_false]; congr 1; rw [decide_eq_decide]; omega
  · rename_i h
    rw [Nat.testBit_mod_two_pow, Nat.testBit_mod_two_pow]
    by_cases e : p = q
    · subst e; simp [h]
    · congr 1; rw [decide_eq_decide]; omega

theorem shlN_lt {n : Nat} (hn : n < 2 ^ 256) (s : Int) : shlN n s < 2 ^ 256 := by
  unfold shlN; split
  · exact Nat.mod_lt _ (by omega)
  · exact Nat.lt_of_le_of_lt (Nat.div_le_self _ _) hn

end Go.Eng
namespace Go.Eng
open Go Go.Proofs
set_option maxRecDepth 100000
set_option maxHeartbeats 2000000

/-- The chain, whether it is named, the parity, the error. -/
def chC (n : Nat) : Nat := if 35 ≤ n ∧ 1 ≤ (n - 35) / 2 ∧ (n - 35) / 2 ≤ 9223372036854775807 then (n - 35) / 2 else 0
def chN (n : Nat) : Bool := decide (35 ≤ n ∧ 1 ≤ (n - 35) / 2 ∧ (n - 35) / 2 ≤ 9223372036854775807)
def chO (n : Nat) : Bool := decide (n = 28 ∨ (35 ≤ n ∧ 1 ≤ (n - 35) / 2 ∧ (n - 35) / 2 ≤ 9223372036854775807 ∧ (n - 35) % 2 = 1))
def chE (n : Nat) : Int := if n = 27 ∨ n = 28 ∨ (35 ≤ n ∧ 1 ≤ (n - 35) / 2 ∧ (n - 35) / 2 ≤ 9223372036854775807) then 0 else 154

theorem w4_zero : w4 0 = [.int .u64 0, .int .u64 0, .int .u64 0, .int .u64 0] := rfl
theorem w4_small {n : Nat} (h : n < 18446744073709551616) : w4 n = [.int .u64 n, .int .u64 0, .int .u64 0, .int .u64 0] := by
  have := w4_v4 (a := n) (b := 0) (c := 0) (d := 0) h (by omega) (by omega) (by omega)
  simpa [v4] using this
theorem w4_head (n : Nat) : ∃ l, w4 n = .int .u64 ((n % 18446744073709551616 : Nat) : Int) :: l := ⟨_, rfl⟩

end Go.Eng
namespace Go.Eng
open Go Go.Proofs

def u8s (bs : List Int) : List Value := bs.map (.int .u8)
def key (w : List Int) : List PS := [.r 32 (u8s w)]
theorem ints_u8s (bs : List Int) : ints .u8 (u8s bs) := by
  intro w hw
  simp only [u8s, List.mem_map] at hw
  obtain ⟨n, _, rfl⟩ := hw
  exact ⟨n, rfl⟩
theorem eqVals_u8s : ∀ (a b : List Int), eqVals (u8s a) (u8s b) = (a == b)
  | [], [] => rfl
  | [], _ :: _ => rfl
  | _ :: _, [] => rfl
  | x :: a, y :: b => by
    have := eqVals_u8s a b
    simp only [u8s, List.map_cons, eqVals, intEq, beq_self_eq_true, Bool.true_and] at this ⊢
    rw [this]; rfl
theorem wrap_eq (n : Int) : IntKind.i64.wrap n = (n + 9223372036854775808) % 18446744073709551616 - 9223372036854775808 := by
  have e : IntKind.i64.wrap n = if n % 18446744073709551616 ≥ 9223372036854775808 then n % 18446744073709551616 - 18446744073709551616 else n % 18446744073709551616 := by
    simp [IntKind.wrap, IntKind.bits, IntKind.signed]
  rw [e]; split <;> omega
theorem wrap_add (a b : Int) : IntKind.i64.wrap (IntKind.i64.wrap a + b) = IntKind.i64.wrap (a + b) := by
  simp only [wrap_eq]; omega
theorem wrap_small {n : Int} (h : -9223372036854775808 ≤ n ∧ n ≤ 9223372036854775807) : IntKind.i64.wrap n = n := by
  simp only [wrap_eq]; omega


/-- One entry of an access list: address, keys, what stands behind the keys. -/
structure Ent where
  a : List Int
  ks : List (List Int)
  sp : List (List PS)
def Ent.row (e : Ent) : List PS := [.r 20 (u8s e.a), .c (.sl (e.ks.map key) e.sp)]
def Ent.core (e : Ent) : List Int × List (List Int) := (e.a, e.ks)

theorem rlen_key (w : List Int) : rlen (key w) = 32 := rfl
theorem rlen_row (e : Ent) : rlen e.row = 21 := rfl

end Go.Eng
namespace Go.Eng
open Go Go.Proofs

set_option maxRecDepth 100000
theorem sameKeys_sound : Sound Try.prog 40 fun args k => ∃ (xs ys : List (List Int)) (s t : List (List PS)), args = [.s (.sl (xs.map key) s), .s (.sl (ys.map key) t)] ∧ xs.length ≤ 2 ^ 40 ∧ k [.s (.v (.bool (xs == ys)))] := by
  refine Sound.of_body tt_ok ent_ok Try.func40 rfl ?_
  rintro ar har Γ hΓ args k ⟨xs, ys, s, t, rfl, hlen, hk⟩
  obtain ⟨X, hX⟩ : ∃ X, X = xs.map key := ⟨_, rfl⟩
  obtain ⟨Y, hY⟩ : ∃ Y, Y = ys.map key := ⟨_, rfl⟩
  rw [← hX, ← hY]
  cbv
  constructor
  · intro h
    have hne : xs.length ≠ ys.length := by rw [har] at h; simp [arS, intC, hX, hY] at h; omega
    cbv
    have e : (xs == ys) = false := by
      rw [beq_eq_false_iff_ne]; intro e; exact hne (by rw [e])
    rw [e] at hk
    exact hk
  · intro h
    have hne : xs.length = ys.length := by rw [har] at h; simp [arS, intC, hX, hY] at h; omega
    cbv
    refine .inr ⟨{ q : Nat × Int // q.1 ≤ xs.length ∧ q.2 = q.1 ∧ xs.take q.1 = ys.take q.1 }, fun q => ⟨mk 26 [(0, .s (.p (.sl X s))), (1, .s (.p (.sl Y t))), (5, pint q.1.2)], []⟩,
      fun q => xs.length - q.1.1, [], _, ⟨(0, 0), Nat.zero_le _, rfl, rfl⟩, rfl, ?_, ?_⟩
    · cbv
    · rintro ⟨⟨p, pi⟩, hq⟩
      have hp : p ≤ xs.length := hq.1
      have hpi : pi = (p : Int) := hq.2.1
      have hsame : xs.take p = ys.take p := hq.2.2
      dsimp only
      cbv
      constructor
      · intro hlt
        have hpi : pi = (p : Int) := hpi
        have hlt' : p < xs.length := by rw [har] at hlt; simpa [arS, intC, hX, hpi] using hlt
        obtain ⟨x, hx⟩ : ∃ x, xs[p]? = some x := ⟨_, List.getElem?_eq_getElem hlt'⟩
        obtain ⟨y, hy⟩ : ∃ y, ys[p]? = some y := ⟨_, List.getElem?_eq_getElem (by omega)⟩
        obtain ⟨xv, hxv⟩ : ∃ xv, xv = u8s x := ⟨_, rfl⟩
        obtain ⟨yv, hyv⟩ : ∃ yv, yv = u8s y := ⟨_, rfl⟩
        cbv
        refine ⟨by rw [har]; kernel_rfl, ?_⟩
        have hpi : pi = (p : Int) := hpi
        refine ⟨[.r 32 xv], by omega, ?_, rfl, ?_⟩
        · rw [hX, hpi]; simp [hx, key, hxv]
        cbv
        have hpi : pi = (p : Int) := hpi
        refine ⟨[.r 32 yv], by omega, ?_, rfl, ?_⟩
        · rw [hY, hpi]; simp [hy, key, hyv]
        cbv
        have hpi : pi = (p : Int) := hpi
        have tx : xs.take (p + 1) = xs.take p ++ [x] := by rw [List.take_add_one, hx]; rfl
        have ty : ys.take (p + 1) = ys.take p ++ [y] := by rw [List.take_add_one, hy]; rfl
        refine ⟨fun _ => ⟨by rw [hxv]; exact ints_u8s x, by rw [hyv]; exact ints_u8s y⟩, fun hne2 => ?_, fun hne2 => ?_⟩
        · have hxy : (x == y) = false := by rw [har, hxv, hyv] at hne2; simpa [arS, eqVals_u8s] using hne2
          cbv
          have e : (xs == ys) = false := by
            rw [beq_eq_false_iff_ne]; intro e
            rw [e, hy] at hx
            cases hx
            simp at hxy
          rw [e] at hk
          exact hk
        · have hxy : x = y := by rw [har, hxv, hyv] at hne2; simpa [arS, eqVals_u8s] using hne2
          cbv
          refine ⟨⟨(p + 1, ar.ib .add .i64 pi 1), hlt', ?_, ?_⟩, ?_, ?_⟩
          · have hpi : pi = (p : Int) := hpi
            show ar.ib .add .i64 pi 1 = ((p + 1 : Nat) : Int)
            rw [har, hpi]; simp only [arS, intB]; rw [wrap_small (by omega)]; omega
          · show xs.take (p + 1) = ys.take (p + 1)
            rw [tx, ty, hsame, hxy]
          · dsimp only
            cbv
          · show xs.length - (p + 1) < xs.length - p
            omega
      · intro hge
        have hpi : pi = (p : Int) := hpi
        have hge' : p = xs.length := by rw [har] at hge; simp [arS, intC, hX, hpi] at hge; omega
        cbv
        have e : (xs == ys) = true := by
          rw [beq_iff_eq]
          rw [hge', List.take_length, List.take_of_length_le (by omega)] at hsame
          exact hsame
        rw [e] at hk
        exact hk
end Go.Eng
namespace Go.Eng
open Go Go.Proofs

set_option maxRecDepth 100000
theorem sameList_sound : Sound Try.prog 23 fun args k => ∃ (xs ys : List Ent) (s t : List (List PS)), args = [.s (.sl (xs.map Ent.row) s), .s (.sl (ys.map Ent.row) t)] ∧ xs.length ≤ 2 ^ 40 ∧ (∀ e ∈ xs, e.ks.length ≤ 2 ^ 40) ∧ k [.s (.v (.bool (xs.map Ent.core == ys.map Ent.core)))] := by
  refine Sound.of_body tt_ok ent_ok Try.func23 rfl ?_
  rintro ar har Γ hΓ args k ⟨xs, ys, s, t, rfl, hlen, hks, hk⟩
  obtain ⟨X, hX⟩ : ∃ X, X = xs.map Ent.row := ⟨_, rfl⟩
  obtain ⟨Y, hY⟩ : ∃ Y, Y = ys.map Ent.row := ⟨_, rfl⟩
  obtain ⟨res, hres⟩ : ∃ res, res = (xs.map Ent.core == ys.map Ent.core) := ⟨_, rfl⟩
  rw [← hX, ← hY]
  rw [← hres] at hk
  cbv
  constructor
  · intro h
    have hne : xs.length ≠ ys.length := by rw [har] at h; simp [arS, intC, hX, hY] at h; omega
    cbv
    have e : res = false := by
      rw [hres, beq_eq_false_iff_ne]; intro e; exact hne (by have := congrArg List.length e; simpa using this)
    rw [e] at hk
    exact hk
  · intro h
    have hne : xs.length = ys.length := by rw [har] at h; simp [arS, intC, hX, hY] at h; omega
    cbv
    refine .inr ⟨{ q : Nat × Int // q.1 ≤ xs.length ∧ q.2 = q.1 ∧ (xs.take q.1).map Ent.core = (ys.take q.1).map Ent.core }, fun q => ⟨mk 42 [(0, .s (.p (.sl X s))), (1, .s (.p (.sl Y t))), (5, pint q.1.2)], []⟩,
      fun q => xs.length - q.1.1, [], _, ⟨(0, 0), Nat.zero_le _, rfl, rfl⟩, rfl, ?_, ?_⟩
    · cbv
    · rintro ⟨⟨p, pi⟩, hq⟩
      have hp : p ≤ xs.length := hq.1
      have hpi : pi = (p : Int) := hq.2.1
      have hsame : (xs.take p).map Ent.core = (ys.take p).map Ent.core := hq.2.2
      dsimp only
      cbv
      constructor
      · intro hlt
        have hpi : pi = (p : Int) := hpi
        have hlt' : p < xs.length := by rw [har] at hlt; simpa [arS, intC, hX, hpi] using hlt
        obtain ⟨x, hx⟩ : ∃ x, xs[p]? = some x := ⟨_, List.getElem?_eq_getElem hlt'⟩
        obtain ⟨y, hy⟩ : ∃ y, ys[p]? = some y := ⟨_, List.getElem?_eq_getElem (by omega)⟩
        obtain ⟨xa, xk, xs1⟩ := x
        obtain ⟨ya, yk, ys1⟩ := y
        obtain ⟨xv, hxv⟩ : ∃ xv, xv = u8s xa := ⟨_, rfl⟩
        obtain ⟨yv, hyv⟩ : ∃ yv, yv = u8s ya := ⟨_, rfl⟩
        obtain ⟨xl, hxl⟩ : ∃ xl, xl = xk.map key := ⟨_, rfl⟩
        obtain ⟨yl, hyl⟩ : ∃ yl, yl = yk.map key := ⟨_, rfl⟩
        have rx : X[pi.toNat]? = some [.r 20 xv, .c (.sl xl xs1)] := by rw [hX, hpi]; simp [hx, Ent.row, hxv, hxl]
        have ry : Y[pi.toNat]? = some [.r 20 yv, .c (.sl yl ys1)] := by rw [hY, hpi]; simp [hy, Ent.row, hyv, hyl]
        cbv
        refine ⟨by rw [har]; kernel_rfl, ?_⟩
        have hpi : pi = (p : Int) := hpi
        refine ⟨_, by omega, rx, rfl, ?_⟩
        cbv
        have hpi : pi = (p : Int) := hpi
        refine ⟨_, by omega, ry, rfl, ?_⟩
        cbv
        have hpi : pi = (p : Int) := hpi
        have tx : xs.take (p + 1) = xs.take p ++ [⟨xa, xk, xs1⟩] := by rw [List.take_add_one, hx]; rfl
        have ty : ys.take (p + 1) = ys.take p ++ [⟨ya, yk, ys1⟩] := by rw [List.take_add_one, hy]; rfl
        refine ⟨fun _ => ⟨by rw [hxv]; exact ints_u8s xa, by rw [hyv]; exact ints_u8s ya⟩, fun hne2 => ?_, fun hne2 => ?_⟩
        · have hxy : xa = ya := by rw [har, hxv, hyv] at hne2; simpa [arS, eqVals_u8s] using hne2
          cbv
          have hpi : pi = (p : Int) := hpi
          refine ⟨_, by omega, rx, rfl, ?_⟩
          cbv
          have hpi : pi = (p : Int) := hpi
          refine ⟨_, by omega, ry, rfl, ?_⟩
          cbv
          refine call_by' hΓ sameKeys_sound ⟨xk, yk, xs1, ys1, by rw [hxl, hyl], hks _ (List.mem_of_getElem? hx), ?_⟩
          obtain ⟨kb, hkb⟩ : ∃ kb, kb = (xk == yk) := ⟨_, rfl⟩
          rw [← hkb]
          cbv
          refine ⟨fun hnb => ?_, fun hnb => ?_⟩
          · have hb : kb = false := by rw [har] at hnb; simpa [arS] using hnb
            cbv
            have e : res = false := by
              rw [hres, beq_eq_false_iff_ne]; intro e
              have h1 := congrArg (fun l => l[p]?) e
              simp [hx, hy, Ent.core] at h1
              rw [h1.2] at hkb
              simp [hb] at hkb
            rw [e] at hk
            exact hk
          · have hb : kb = true := by rw [har] at hnb; simpa [arS] using hnb
            have hkk : xk = yk := by rw [hb] at hkb; exact eq_of_beq hkb.symm
            cbv
            refine ⟨⟨(p + 1, ar.ib .add .i64 pi 1), hlt', ?_, ?_⟩, ?_, ?_⟩
            · have hpi : pi = (p : Int) := hpi
              show ar.ib .add .i64 pi 1 = ((p + 1 : Nat) : Int)
              rw [har, hpi]; simp only [arS, intB]; rw [wrap_small (by omega)]; omega
            · show (xs.take (p + 1)).map Ent.core = (ys.take (p + 1)).map Ent.core
              rw [tx, ty, List.map_append, List.map_append, hsame, hxy, hkk]; rfl
            · dsimp only
              cbv
            · show xs.length - (p + 1) < xs.length - p
              omega
        · have hxy : (xa == ya) = false := by rw [har, hxv, hyv] at hne2; simpa [arS, eqVals_u8s] using hne2
          cbv
          have e : res = false := by
            rw [hres, beq_eq_false_iff_ne]; intro e
            have h1 := congrArg (fun l => l[p]?) e
            simp [hx, hy, Ent.core] at h1
            rw [h1.1] at hxy
            simp at hxy
          rw [e] at hk
          exact hk
      · intro hge
        have hpi : pi = (p : Int) := hpi
        have hge' : p = xs.length := by rw [har] at hge; simp [arS, intC, hX, hpi] at hge; omega
        cbv
        have e : res = true := by
          rw [hres, beq_iff_eq]
          rw [hge', List.take_length, List.take_of_length_le (by omega)] at hsame
          exact hsame
        rw [e] at hk
        exact hk
end Go.Eng
namespace Go.Eng
open Go Go.Proofs

def mark20 : List Int := 195 :: List.replicate 19 0
def mark32 : List Int := 195 :: List.replicate 31 0
def Ent.trow (e : Ent) : List PS := [.r 20 (u8s e.a), .c (.sl (e.ks.map key) [key mark32])]
def endrow : List PS := [.r 20 (u8s mark20), .c (.sl [] [])]
def zero74 : List PS := [.r 20 (u8s (List.replicate 20 0)), .c (.sl [] [])]

def zero26 : List PS := [.r 32 (u8s (List.replicate 32 0))]

set_option maxRecDepth 100000
theorem twin_sound : Sound Try.prog 6 fun args k => ∃ (es : List Ent) (s : List (List PS)), args = [.s (.sl (es.map Ent.row) s)] ∧ es.length ≤ 2 ^ 40 ∧ (∀ e ∈ es, e.ks.length ≤ 2 ^ 40) ∧ k [.s (.sl (es.map Ent.trow) [endrow])] := by
  refine Sound.of_body tt_ok ent_ok Try.func6 rfl ?_
  rintro ar har Γ hΓ args k ⟨es, s, rfl, hlen, hks, hk⟩
  obtain ⟨X, hX⟩ : ∃ X, X = es.map Ent.row := ⟨_, rfl⟩
  obtain ⟨N, hN⟩ : ∃ N, N = es.length := ⟨_, rfl⟩
  rw [← hX]
  cbv
  refine ⟨N + 1, fun _ => ⟨?_, ?_, ?_, ?_⟩, ?_⟩
  · rw [har]; simp only [arS, intB]; rw [wrap_small (by rw [hX, List.length_map]; omega), hX, List.length_map, hN]; rfl
  · rw [har]; simp only [arS, intB]; rw [wrap_small (by rw [hX, List.length_map]; omega), hX, List.length_map, hN]; rfl
  · have e : (tt 62).bytes = 48 := rfl
    rw [e]; omega
  · simp only [maxLen]; omega
  cbv
  refine .inr ⟨{ q : Nat × Int × List (List PS) // q.1 ≤ es.length ∧ q.2.1 = q.1 ∧ q.2.2 = (es.take q.1).map Ent.trow ++ List.replicate (es.length + 1 - q.1) zero74 },
    fun q => ⟨mk 67 [(0, .s (.p (.sl X s))), (3, .s (.own 0)), (4, pint q.1.2.1)], [.arr q.1.2.2 62 21 48 true]⟩,
    fun q => es.length - q.1.1, [], _, ⟨(0, 0, ar.rep (N + 1) zero74), Nat.zero_le _, rfl, by rw [har, hN]; simp [arS]⟩, rfl, ?_, ?_⟩
  · cbv
  · rintro ⟨⟨p, pi, D⟩, hq⟩
    have hp : p ≤ es.length := hq.1
    have hpi : pi = (p : Int) := hq.2.1
    have hD : D = (es.take p).map Ent.trow ++ List.replicate (es.length + 1 - p) zero74 := hq.2.2
    dsimp only
    cbv
    constructor
    · intro hlt
      have hpi : pi = (p : Int) := hpi
      have hlt' : p < es.length := by rw [har] at hlt; simpa [arS, intC, hX, hpi] using hlt
      obtain ⟨e, hx⟩ : ∃ e, es[p]? = some e := ⟨_, List.getElem?_eq_getElem hlt'⟩
      obtain ⟨ea, ek, es1⟩ := e
      have hekl : ek.length ≤ 2 ^ 40 := hks _ (List.mem_of_getElem? hx)
      obtain ⟨xv, hxv⟩ : ∃ xv, xv = u8s ea := ⟨_, rfl⟩
      obtain ⟨xl, hxl⟩ : ∃ xl, xl = ek.map key := ⟨_, rfl⟩
      have rx : X[pi.toNat]? = some [.r 20 xv, .c (.sl xl es1)] := by rw [hX, hpi]; simp [hx, Ent.row, hxv, hxl]
      cbv
      have hpi : pi = (p : Int) := hpi
      refine ⟨_, by omega, rx, rfl, ?_⟩
      cbv
      obtain ⟨n, hn⟩ : ∃ n, n = ek.length := ⟨_, rfl⟩
      have eL : ar.ib .add .i64 (ar.len xl) 1 = ((n + 1 : Nat) : Int) := by
        rw [har, hn]; simp only [arS, intB]; rw [wrap_small (by rw [hxl, List.length_map]; omega), hxl, List.length_map]; rfl
      refine ⟨n + 1, fun _ => ⟨eL, eL, ?_, ?_⟩, ?_⟩
      · have e : (tt 64).bytes = 32 := rfl
        rw [e]; omega
      · simp only [maxLen]; omega
      cbv
      have hpi : pi = (p : Int) := hpi
      refine ⟨_, by omega, rx, rfl, ?_⟩
      cbv
      refine ⟨fun _ y hy => ?_, ?_⟩
      · rw [hxl, List.mem_map] at hy
        obtain ⟨w, _, rfl⟩ := hy
        rfl
      cbv
      have hpi : pi = (p : Int) := hpi
      refine ⟨_, by omega, rx, rfl, ?_⟩
      cbv
      have hxll : xl.length = n := by rw [hxl, List.length_map, hn]
      have hnat : ∀ q : Nat, ar.nat (q : Int) = q := fun q => by rw [har]; exact Int.toNat_natCast q
      have hlenx : ar.len xl = (n : Int) := by rw [har]; show (xl.length : Int) = n; rw [hxll]
      have eK : ar.cpy (ar.rep (n + 1) zero26) xl = xl ++ [zero26] := by
        rw [har]; show xl.take (List.replicate (n + 1) zero26).length ++ (List.replicate (n + 1) zero26).drop xl.length = _
        rw [List.length_replicate, List.take_of_length_le (by rw [hxll]; omega), List.drop_replicate, hxll, Nat.add_sub_cancel_left]; rfl
      have hlenK : (ar.cpy (ar.rep (n + 1) zero26) xl).length = n + 1 := by rw [eK]; simp [hxll]
      have hpi : pi = (p : Int) := hpi
      refine ⟨fun _ => ?_, fun _ => ?_, by rw [har]; kernel_rfl, _, by omega, rx, rfl, ?_⟩
      · have h2 : 0 ≤ ar.len xl ∧ ar.len xl < ((ar.cpy (ar.rep (n + 1) zero26) xl).length : Int) := by
          have hlenx : ar.len xl = (n : Int) := hlenx
          rw [hlenx, hlenK]; omega
        exact h2
      · have h2 : ar.nat (ar.len xl) < (ar.cpy (ar.rep (n + 1) zero26) xl).length := by
          have hlenx : ar.len xl = (n : Int) := hlenx
          rw [hlenx, hlenK, hnat]; omega
        exact ⟨h2, rfl⟩
      cbv
      have hpi : pi = (p : Int) := hpi
      refine ⟨_, by omega, rx, rfl, ?_⟩
      cbv
      have hlenK2 : (ar.setx (ar.cpy (ar.rep (n + 1) zero26) xl) (ar.nat (ar.len xl)) (key mark32)).length = n + 1 := by
        rw [har]; show (List.set _ _ _).length = _; rw [List.length_set, ← har, hlenK]
      have hDl : D.length = N + 1 := by rw [hD, hN]; simp; omega
      have hlenx : ar.len xl = (n : Int) := hlenx
      have hnat : ∀ q : Nat, ar.nat (q : Int) = q := hnat
      have tk : es.take (p + 1) = es.take p ++ [⟨ea, ek, es1⟩] := by rw [List.take_add_one, hx]; rfl
      have hpi : pi = (p : Int) := hpi
      refine .inr ⟨fun _ => ?_, fun _ => ?_, fun _ => ?_, ?_⟩
      · have h2 : 0 ≤ ar.len xl ∧ ar.len xl ≤ (((ar.setx (ar.cpy (ar.rep (n + 1) zero26) xl) (ar.nat (ar.len xl)) (key mark32)).length + 0 : Nat) : Int) := by
          rw [hlenK2, hlenx]; omega
        exact h2
      · show 0 ≤ pi ∧ pi < (D.length : Int)
        rw [hDl, hN]; omega
      · have h2 : ar.nat pi < D.length := by rw [hpi, hnat, hDl, hN]; omega
        exact ⟨h2, rfl⟩
      refine ⟨⟨(p + 1, ar.ib .add .i64 pi 1, ar.setx D (ar.nat pi) [.r 20 xv, .c (.sl (ar.mid (ar.setx (ar.cpy (ar.rep (n + 1) zero26) xl) (ar.nat (ar.len xl)) (key mark32)) 0 (ar.nat (ar.len xl))) (ar.frm (ar.setx (ar.cpy (ar.rep (n + 1) zero26) xl) (ar.nat (ar.len xl)) (key mark32)) (ar.nat (ar.len xl))))]), hlt', ?_, ?_⟩, ?_, ?_⟩
      · have hpi : pi = (p : Int) := hpi
        show ar.ib .add .i64 pi 1 = ((p + 1 : Nat) : Int)
        rw [har, hpi]; simp only [arS, intB]; rw [wrap_small (by omega)]; omega
      · dsimp only
        have e1 : ar.setx (ar.cpy (ar.rep (n + 1) zero26) xl) (ar.nat (ar.len xl)) (key mark32) = xl ++ [key mark32] := by
          rw [eK, hlenx, hnat, har]; show List.set _ _ _ = _
          rw [List.set_append_right _ _ (by omega), hxll]; simp
        rw [e1, hlenx, hnat, hpi, hnat, hD, har]
        show List.set _ _ [PS.r 20 xv, PS.c (.sl (((xl ++ [key mark32]).take n).drop 0) ((xl ++ [key mark32]).drop n))] = _
        rw [← hxll, List.take_left, List.drop_left, List.drop_zero, tk, List.map_append, List.set_append_right _ _ (by simp; omega)]
        have e2 : es.length + 1 - p = (es.length + 1 - (p + 1)) + 1 := by omega
        rw [e2, List.replicate_succ]
        simp [Ent.trow, hxv, hxl, Nat.min_eq_left hp]
      · dsimp only
        cbv
      · show es.length - (p + 1) < es.length - p
        omega
    · intro hge
      have hpi : pi = (p : Int) := hpi
      have hge' : p = es.length := by rw [har] at hge; simp [arS, intC, hX, hpi] at hge; omega
      cbv
      have hnat : ∀ q : Nat, ar.nat (q : Int) = q := fun q => by rw [har]; exact Int.toNat_natCast q
      have hlenx : ar.len X = (N : Int) := by rw [har]; show (X.length : Int) = N; rw [hX, List.length_map, hN]
      have hD2 : D = es.map Ent.trow ++ [zero74] := by rw [hD, hge', List.take_length, Nat.add_sub_cancel_left]; rfl
      have hDl : D.length = N + 1 := by rw [hD2, hN]; simp
      have eF : ar.setx D (ar.nat (ar.len X)) endrow = es.map Ent.trow ++ [endrow] := by
        rw [hlenx, hnat, hD2, har]; show List.set _ _ _ = _
        rw [List.set_append_right _ _ (by simp [hN]), List.length_map, hN]; simp
      refine ⟨fun _ => ?_, fun _ => ?_, .inr ⟨fun _ => ?_, ?_⟩⟩
      · show 0 ≤ ar.len X ∧ ar.len X < (D.length : Int)
        rw [hDl, hlenx]; omega
      · have h2 : ar.nat (ar.len X) < D.length := by rw [hlenx, hnat, hDl]; omega
        exact ⟨h2, rfl⟩
      · have h2 : 0 ≤ ar.len X ∧ ar.len X ≤ (((ar.setx D (ar.nat (ar.len X)) endrow).length + 0 : Nat) : Int) := by
          rw [eF, hlenx]; simp [hN]; omega
        exact h2
      · have e2 : k [.s (.sl (ar.mid (ar.setx D (ar.nat (ar.len X)) endrow) 0 (ar.nat (ar.len X))) (ar.frm (ar.setx D (ar.nat (ar.len X)) endrow) (ar.nat (ar.len X))))] := by
          rw [eF, hlenx, hnat, har]
          show k [PR.s (.sl (((es.map Ent.trow ++ [endrow]).take N).drop 0) ((es.map Ent.trow ++ [endrow]).drop N))]
          have hl : N = (es.map Ent.trow).length := by rw [List.length_map, hN]
          rw [hl, List.take_left, List.drop_left, List.drop_zero]
          exact hk
        exact e2
end Go.Eng
namespace Go.Eng
open Go Go.Proofs
set_option maxRecDepth 100000
set_option linter.unusedVariables false

def bytesOk (bs : List Int) : Prop := ∀ b ∈ bs, 0 ≤ b ∧ b < 256
/-- An authorization. -/
structure Au where
  ch : Nat
  a : List Int
  no : Nat
  pa : Nat
  r : Nat
  s : Nat

def Au.row (u : Au) : List PS := [.r 4 (w4 u.ch), .r 20 (u8s u.a), .c (.v (.int .u64 u.no)), .c (.v (.int .u64 u.pa)), .r 4 (w4 u.r), .r 4 (w4 u.s)]
def Au.ok (u : Au) : Prop := u.ch < M256 ∧ u.a.length = 20 ∧ u.no < 18446744073709551616 ∧ u.pa < 18446744073709551616 ∧ u.r < M256 ∧ u.s < M256
theorem list20 : ∀ a : List Int, a.length = 20 → ∃ a0 a1 a2 a3 a4 a5 a6 a7 a8 a9 a10 a11 a12 a13 a14 a15 a16 a17 a18 a19, a = [a0, a1, a2, a3, a4, a5, a6, a7, a8, a9, a10, a11, a12, a13, a14, a15, a16, a17, a18, a19]
  | [a0, a1, a2, a3, a4, a5, a6, a7, a8, a9, a10, a11, a12, a13, a14, a15, a16, a17, a18, a19], _ => ⟨a0, a1, a2, a3, a4, a5, a6, a7, a8, a9, a10, a11, a12, a13, a14, a15, a16, a17, a18, a19, rfl⟩

theorem wf64 {n : Nat} (h : n < 18446744073709551616) : (Lit.int .u64 (n : Int)).wf = true := by
  simp only [Lit.wf, Bool.and_eq_true, decide_eq_true_eq]
  have e1 : IntKind.u64.min = 0 := by decide
  have e2 : IntKind.u64.max = 18446744073709551615 := by decide
  omega
theorem wf8 {n : Int} (h : 0 ≤ n ∧ n < 256) : (Lit.int .u8 n).wf = true := by
  simp only [Lit.wf, Bool.and_eq_true, decide_eq_true_eq]
  have e1 : IntKind.u8.min = 0 := by decide
  have e2 : IntKind.u8.max = 255 := by decide
  omega
theorem okL_run {k : IntKind} {l : List Leaf} {ws : List Value} : ∀ {vs : List Value}, (∀ v ∈ vs, ∃ n, v = .int k n ∧ (Lit.int k n).wf = true) → okL l ws → okL (List.replicate vs.length (some k) ++ l) (vs ++ ws)
  | [], _, h => h
  | v :: vs, h, h2 => ⟨h v (by simp), okL_run (fun x hx => h x (by simp [hx])) h2⟩
theorem eqVals_self {l : List Leaf} : ∀ {l : List Leaf} {vs : List Value}, okL l vs → eqVals vs vs = true
  | [], [], _ => rfl
  | some k :: l, v :: vs, ⟨⟨n, e, _⟩, h⟩ => by subst e; simp [eqVals, intEq, eqVals_self (l := l) h]
  | none :: l, v :: vs, ⟨⟨b, e⟩, h⟩ => by subst e; simp [eqVals, intEq, eqVals_self (l := l) h]
theorem w4_wf (n : Nat) : ∀ v ∈ w4 n, ∃ z, v = .int .u64 z ∧ (Lit.int .u64 z).wf = true := fun v hv => by
  simp only [w4, List.mem_cons, List.not_mem_nil, or_false] at hv
  rcases hv with rfl | rfl | rfl | rfl <;> exact ⟨_, rfl, wf64 (Nat.mod_lt _ (by decide))⟩
theorem u8s_wf {a : List Int} (h : bytesOk a) : ∀ v ∈ u8s a, ∃ z, v = .int .u8 z ∧ (Lit.int .u8 z).wf = true := fun v hv => by
  rw [u8s, List.mem_map] at hv
  obtain ⟨b, hb, rfl⟩ := hv
  exact ⟨b, rfl, wf8 (h b hb)⟩

theorem au_cells (u : Au) (h : u.ok) (hb : bytesOk u.a) : ∃ (x0 x1 x2 x3 : Int) (a0 a1 a2 a3 a4 a5 a6 a7 a8 a9 a10 a11 a12 a13 a14 a15 a16 a17 a18 a19 : Int) (c3 c4 : Int) (y0 y1 y2 y3 z0 z1 z2 z3 : Int), u.row = [.r 4 [.int .u64 x0, .int .u64 x1, .int .u64 x2, .int .u64 x3], .r 20 [.int .u8 a0, .int .u8 a1, .int .u8 a2, .int .u8 a3, .int .u8 a4, .int .u8 a5, .int .u8 a6, .int .u8 a7, .int .u8 a8, .int .u8 a9, .int .u8 a10, .int .u8 a11, .int .u8 a12, .int .u8 a13, .int .u8 a14, .int .u8 a15, .int .u8 a16, .int .u8 a17, .int .u8 a18, .int .u8 a19], .c (.v (.int .u64 c3)), .c (.v (.int .u64 c4)), .r 4 [.int .u64 y0, .int .u64 y1, .int .u64 y2, .int .u64 y3], .r 4 [.int .u64 z0, .int .u64 z1, .int .u64 z2, .int .u64 z3]] ∧
    okL [some .u64, some .u64, some .u64, some .u64, some .u8, some .u8, some .u8, some .u8, some .u8, some .u8, some .u8, some .u8, some .u8, some .u8, some .u8, some .u8, some .u8, some .u8, some .u8, some .u8, some .u8, some .u8, some .u8, some .u8, some .u64, some .u64, some .u64, some .u64, some .u64, some .u64, some .u64, some .u64, some .u64, some .u64] [.int .u64 x0, .int .u64 x1, .int .u64 x2, .int .u64 x3, .int .u8 a0, .int .u8 a1, .int .u8 a2, .int .u8 a3, .int .u8 a4, .int .u8 a5, .int .u8 a6, .int .u8 a7, .int .u8 a8, .int .u8 a9, .int .u8 a10, .int .u8 a11, .int .u8 a12, .int .u8 a13, .int .u8 a14, .int .u8 a15, .int .u8 a16, .int .u8 a17, .int .u8 a18, .int .u8 a19, .int .u64 c3, .int .u64 c4, .int .u64 y0, .int .u64 y1, .int .u64 y2, .int .u64 y3, .int .u64 z0, .int .u64 z1, .int .u64 z2, .int .u64 z3] := by
  obtain ⟨ch, a, no, pa, r, s⟩ := u
  obtain ⟨h1, h20, h3, h4, h5, h6⟩ := h
  have hs : okL (List.replicate (w4 s).length (some .u64) ++ []) (w4 s ++ []) := okL_run (w4_wf s) trivial
  have hr := okL_run (w4_wf r) hs
  have hp : okL (some .u64 :: _) (.int .u64 (pa : Int) :: _) := ⟨⟨_, rfl, wf64 h4⟩, hr⟩
  have hn : okL (some .u64 :: _) (.int .u64 (no : Int) :: _) := ⟨⟨_, rfl, wf64 h3⟩, hp⟩
  have ha := okL_run (u8s_wf hb) hn
  have hc := okL_run (w4_wf ch) ha
  obtain ⟨a0, a1, a2, a3, a4, a5, a6, a7, a8, a9, a10, a11, a12, a13, a14, a15, a16, a17, a18, a19, rfl⟩ := list20 a h20
  exact ⟨_, _, _, _, _, _, _, _, _, _, _, _, _, _, _, _, _, _, _, _, _, _, _, _, _, _, _, _, _, _, _, _, _, _, rfl, hc⟩


def Au.cells (u : Au) : List Value := w4 u.ch ++ (u8s u.a ++ (.int .u64 (u.no : Int) :: .int .u64 (u.pa : Int) :: (w4 u.r ++ w4 u.s)))
theorem au_cells2 (u : Au) (h : u.ok) (hb : bytesOk u.a) : ∃ (x0 x1 x2 x3 : Int) (a0 a1 a2 a3 a4 a5 a6 a7 a8 a9 a10 a11 a12 a13 a14 a15 a16 a17 a18 a19 : Int) (c3 c4 : Int) (y0 y1 y2 y3 z0 z1 z2 z3 : Int), u.row = [.r 4 [.int .u64 x0, .int .u64 x1, .int .u64 x2, .int .u64 x3], .r 20 [.int .u8 a0, .int .u8 a1, .int .u8 a2, .int .u8 a3, .int .u8 a4, .int .u8 a5, .int .u8 a6, .int .u8 a7, .int .u8 a8, .int .u8 a9, .int .u8 a10, .int .u8 a11, .int .u8 a12, .int .u8 a13, .int .u8 a14, .int .u8 a15, .int .u8 a16, .int .u8 a17, .int .u8 a18, .int .u8 a19], .c (.v (.int .u64 c3)), .c (.v (.int .u64 c4)), .r 4 [.int .u64 y0, .int .u64 y1, .int .u64 y2, .int .u64 y3], .r 4 [.int .u64 z0, .int .u64 z1, .int .u64 z2, .int .u64 z3]] ∧
    okL [some .u64, some .u64, some .u64, some .u64, some .u8, some .u8, some .u8, some .u8, some .u8, some .u8, some .u8, some .u8, some .u8, some .u8, some .u8, some .u8, some .u8, some .u8, some .u8, some .u8, some .u8, some .u8, some .u8, some .u8, some .u64, some .u64, some .u64, some .u64, some .u64, some .u64, some .u64, some .u64, some .u64, some .u64] [.int .u64 x0, .int .u64 x1, .int .u64 x2, .int .u64 x3, .int .u8 a0, .int .u8 a1, .int .u8 a2, .int .u8 a3, .int .u8 a4, .int .u8 a5, .int .u8 a6, .int .u8 a7, .int .u8 a8, .int .u8 a9, .int .u8 a10, .int .u8 a11, .int .u8 a12, .int .u8 a13, .int .u8 a14, .int .u8 a15, .int .u8 a16, .int .u8 a17, .int .u8 a18, .int .u8 a19, .int .u64 c3, .int .u64 c4, .int .u64 y0, .int .u64 y1, .int .u64 y2, .int .u64 y3, .int .u64 z0, .int .u64 z1, .int .u64 z2, .int .u64 z3] ∧ [.int .u64 x0, .int .u64 x1, .int .u64 x2, .int .u64 x3, .int .u8 a0, .int .u8 a1, .int .u8 a2, .int .u8 a3, .int .u8 a4, .int .u8 a5, .int .u8 a6, .int .u8 a7, .int .u8 a8, .int .u8 a9, .int .u8 a10, .int .u8 a11, .int .u8 a12, .int .u8 a13, .int .u8 a14, .int .u8 a15, .int .u8 a16, .int .u8 a17, .int .u8 a18, .int .u8 a19, .int .u64 c3, .int .u64 c4, .int .u64 y0, .int .u64 y1, .int .u64 y2, .int .u64 y3, .int .u64 z0, .int .u64 z1, .int .u64 z2, .int .u64 z3] = u.cells := by
  obtain ⟨ch, a, no, pa, r, s⟩ := u
  obtain ⟨h1, h20, h3, h4, h5, h6⟩ := h
  have hs : okL (List.replicate (w4 s).length (some .u64) ++ []) (w4 s ++ []) := okL_run (w4_wf s) trivial
  have hr := okL_run (w4_wf r) hs
  have hp : okL (some .u64 :: _) (.int .u64 (pa : Int) :: _) := ⟨⟨_, rfl, wf64 h4⟩, hr⟩
  have hn : okL (some .u64 :: _) (.int .u64 (no : Int) :: _) := ⟨⟨_, rfl, wf64 h3⟩, hp⟩
  have ha := okL_run (u8s_wf hb) hn
  have hc := okL_run (w4_wf ch) ha
  obtain ⟨a0, a1, a2, a3, a4, a5, a6, a7, a8, a9, a10, a11, a12, a13, a14, a15, a16, a17, a18, a19, rfl⟩ := list20 a h20
  exact ⟨_, _, _, _, _, _, _, _, _, _, _, _, _, _, _, _, _, _, _, _, _, _, _, _, _, _, _, _, _, _, _, _, _, _, rfl, hc, rfl⟩


theorem eqVals_append : ∀ {a b c d : List Value}, a.length = c.length → eqVals (a ++ b) (c ++ d) = (eqVals a c && eqVals b d)
  | [], _, [], _, _ => by simp [eqVals]
  | x :: a, b, y :: c, d, h => by
    simp only [List.cons_append, eqVals]
    rw [eqVals_append (by simpa using h), Bool.and_assoc]
  | [], _, _ :: _, _, h => by cases h
  | _ :: _, _, [], _, h => by cases h
theorem eqV4 {n m : Nat} (hn : n < M256) (hm : m < M256) : eqVals (w4 n) (w4 m) = decide (n = m) := by
  obtain ⟨a, b, c, d, ha, hb, hc, hd, rfl⟩ := v4_of n hn
  obtain ⟨a', b', c', d', ha', hb', hc', hd', rfl⟩ := v4_of m hm
  rw [w4_v4 ha hb hc hd, w4_v4 ha' hb' hc' hd']
  have e : (v4 a b c d = v4 a' b' c' d') ↔ (a = a' ∧ b = b' ∧ c = c' ∧ d = d') := by unfold v4; omega
  rw [Bool.eq_iff_iff, decide_eq_true_iff, e]
  simp [eqVals, intEq]
  omega
theorem eqVals_cells {u v : Au} (hu : u.ok) (hv : v.ok) : eqVals u.cells v.cells = true ↔ u = v := by
  obtain ⟨ch, a, no, pa, r, s⟩ := u
  obtain ⟨ch', a', no', pa', r', s'⟩ := v
  obtain ⟨h1, h2, h3, h4, h5, h6⟩ := hu
  obtain ⟨g1, g2, g3, g4, g5, g6⟩ := hv
  simp only [Au.cells]
  simp only at h1 h2 h3 h4 h5 h6 g1 g2 g3 g4 g5 g6
  rw [eqVals_append (show (w4 ch).length = (w4 ch').length from rfl), eqVals_append (by simp [u8s]; rw [h2, g2])]
  simp only [eqVals, intEq]
  rw [eqVals_append (show (w4 r).length = (w4 r').length from rfl), eqV4 h1 g1, eqVals_u8s, eqV4 h5 g5, eqV4 h6 g6]
  simp
  intro _ _
  omega

theorem intsW4 (n : Nat) : ints .u64 (w4 n) := by
  intro w hw
  simp only [w4, List.mem_cons, List.not_mem_nil, or_false] at hw
  rcases hw with rfl | rfl | rfl | rfl <;> exact ⟨_, rfl⟩

/-- A transaction. -/
structure Tx where
  ty : Int
  ch : Nat
  no : Nat
  pr : Nat
  ti : Nat
  ca : Nat
  ga : Nat
  cr : Bool
  to : List Int
  va : Nat
  d : List Int
  sd : List (List PS)
  ac : List Ent
  sac : List (List PS)
  bc : Nat
  bl : List (List Int)
  sbl : List (List PS)
  au : List Au
  sau : List (List PS)
  v : Nat
  r : Nat
  s : Nat

def b8' (x : Int) : List PS := [.c (.v (.int .u8 x))]
/-- Its cells, the lists' rows given. -/
def txRow (ty : Int) (ch no : Int) (pr ti ca : List Value) (ga : Int) (cr : Bool) (to va : List Value) (D sd A sa : List (List PS)) (bc : List Value) (B sb U su : List (List PS)) (v r s : List Value) : List PS :=
  [.c (.v (.int .i64 ty)), .c (.v (.int .u64 ch)), .c (.v (.int .u64 no)), .r 4 pr, .r 4 ti, .r 4 ca, .c (.v (.int .u64 ga)), .c (.v (.bool cr)), .r 20 to, .r 4 va, .c (.sl D sd), .c (.sl A sa), .r 4 bc, .c (.sl B sb), .c (.sl U su), .r 4 v, .r 4 r, .r 4 s]
def Tx.row (t : Tx) : List PS :=
  txRow t.ty t.ch t.no (w4 t.pr) (w4 t.ti) (w4 t.ca) t.ga t.cr (u8s t.to) (w4 t.va) (t.d.map b8') t.sd (t.ac.map Ent.row) t.sac (w4 t.bc) (t.bl.map key) t.sbl (t.au.map Au.row) t.sau (w4 t.v) (w4 t.r) (w4 t.s)
def M64 : Nat := 18446744073709551616
structure Tx.ok (t : Tx) : Prop where
  ty : -9223372036854775808 ≤ t.ty ∧ t.ty ≤ 9223372036854775807
  ch : t.ch < 18446744073709551616
  no : t.no < 18446744073709551616
  pr : t.pr < M256
  ti : t.ti < M256
  ca : t.ca < M256
  ga : t.ga < 18446744073709551616
  to : t.to.length = 20
  va : t.va < M256
  ac : ∀ e ∈ t.ac, e.a.length = 20 ∧ bytesOk e.a ∧ ∀ w ∈ e.ks, w.length = 32 ∧ bytesOk w
  bc : t.bc < M256
  bl : ∀ w ∈ t.bl, w.length = 32 ∧ bytesOk w
  au : ∀ u ∈ t.au, u.ok ∧ bytesOk u.a
  v : t.v < M256
  r : t.r < M256
  s : t.s < M256
  tob : bytesOk t.to
  db : bytesOk t.d
structure Tx.small (t : Tx) : Prop where
  d : t.d.length ≤ 2 ^ 36
  ac : t.ac.length ≤ 2 ^ 36
  ks : ∀ e ∈ t.ac, e.ks.length ≤ 2 ^ 36
  bl : t.bl.length ≤ 2 ^ 36
  au : t.au.length ≤ 2 ^ 36

/-- An entry without the room behind its keys. -/
def Ent.cor (e : Ent) : Ent := ⟨e.a, e.ks, []⟩
/-- What a transaction says, without the room behind its lists. -/
def Tx.core (t : Tx) : Tx := { t with sd := [], ac := t.ac.map Ent.cor, sac := [], sbl := [], sau := [] }

end Go.Eng
