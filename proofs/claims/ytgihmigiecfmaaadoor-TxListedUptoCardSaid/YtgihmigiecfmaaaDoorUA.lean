import Derived.Test.YtgihmigiecfmaaaDoorEngP
namespace Go.Eng
open Go Go.Proofs
def w4 (n : Nat) : List Value := [.int .u64 (n % 18446744073709551616 : Nat), .int .u64 (n / 18446744073709551616 % 18446744073709551616 : Nat), .int .u64 (n / 340282366920938463463374607431768211456 % 18446744073709551616 : Nat),
 .int .u64 (n / 6277101735386680763835789423207666416102355444464034512896 % 18446744073709551616 : Nat)]
def v4 (a b c d : Nat) : Nat := a + 18446744073709551616 * b + 340282366920938463463374607431768211456 * c + 6277101735386680763835789423207666416102355444464034512896 * d
theorem w4_v4 {a b c d : Nat} (ha : a < 18446744073709551616) (hb : b < 18446744073709551616) (hc : c < 18446744073709551616) (hd : d < 18446744073709551616) : w4 (v4 a b c d) = [.int .u64 a, .int .u64 b, .int .u64 c, .int .u64 d] := by
 have e0 : v4 a b c d % 18446744073709551616 = a := by unfold v4; omega
 have e1 : v4 a b c d / 18446744073709551616 % 18446744073709551616 = b := by unfold v4; omega
 have e2 : v4 a b c d / 340282366920938463463374607431768211456 % 18446744073709551616 = c := by unfold v4; omega
 have e3 : v4 a b c d / 6277101735386680763835789423207666416102355444464034512896 % 18446744073709551616 = d := by unfold v4; omega
 unfold w4
 rw [e0, e1, e2, e3]
theorem v4_of (n : Nat) (h : n < 115792089237316195423570985008687907853269984665640564039457584007913129639936) :
  ∃ a b c d : Nat, a < 18446744073709551616 ∧ b < 18446744073709551616 ∧ c < 18446744073709551616 ∧ d < 18446744073709551616 ∧ n = v4 a b c d :=
 ⟨n % 18446744073709551616, n / 18446744073709551616 % 18446744073709551616, n / 340282366920938463463374607431768211456 % 18446744073709551616, n / 6277101735386680763835789423207666416102355444464034512896 % 18446744073709551616,
  by omega, by omega, by omega, by omega, by unfold v4; omega⟩
abbrev pw (n : Nat) : PR := .a [.r 4 (w4 n)]
abbrev M256 : Nat := 115792089237316195423570985008687907853269984665640564039457584007913129639936
end Go.Eng
namespace Go.Eng
open Go Go.Proofs
set_option maxRecDepth 100000
theorem u256From_sound : Sound Tryd.prog 37 fun args k => ∃ n : Nat, args = [.s (.v (.int .u64 n))] ∧ n < 18446744073709551616 ∧ k [pw n] := by
 refine Sound.of_body tt_ok ent_ok Tryd.func37 rfl ?_
 rintro ar har Γ hΓ args k ⟨n, rfl, hn, hk⟩
 obtain ⟨z, hz⟩ : ∃ z : Int, z = n := ⟨_, rfl⟩
 have e : w4 n = [.int .u64 z, .int .u64 0, .int .u64 0, .int .u64 0] := by
  have := w4_v4 (a := n) (b := 0) (c := 0) (d := 0) hn (by omega) (by omega) (by omega)
  rw [hz]
  simpa [v4] using this
 rw [← hz]
 unfold pw at hk
 rw [e] at hk
 cbv
 exact hk
theorem sub_step {a b c : Nat} (ha : a < 18446744073709551616) (hb : b < 18446744073709551616) (hc : c ≤ 1) :
  ∃ d e : Nat, extOp 1 [(a : Int), b, c] = d ∧ extOp 2 [(a : Int), b, c] = e ∧ d < 18446744073709551616 ∧ e ≤ 1 ∧ d + b + c = a + 18446744073709551616 * e := by
 refine ⟨_, _, rfl, rfl, ?_, ?_, ?_⟩ <;> simp only [Int.toNat_natCast]
 ·omega
 ·split <;> omega
 ·split <;> omega
theorem sub_fin {D M N c : Nat} (h : D + M = N + M256 * c) (hD : D < M256) (_hN : N < M256) (hc : c ≤ 1) : (N + M256 - M) % M256 = D ∧ (if N < M then 1 else 0) = c := by
 generalize M256 = Q at *
 have : c = 0 ∨ c = 1 := by omega
 rcases this with rfl | rfl
 ·rw [Nat.mul_zero, Nat.add_zero] at h
  rw [show N + Q - M = D + Q by omega, Nat.add_mod_right, Nat.mod_eq_of_lt hD]
  exact ⟨rfl, by rw [if_neg (by omega)]⟩
 ·rw [Nat.mul_one] at h
  rw [show N + Q - M = D by omega, Nat.mod_eq_of_lt hD]
  exact ⟨rfl, by rw [if_pos (by omega)]⟩
theorem u256Sub_sound : Sound Tryd.prog 58 fun args k => ∃ n m : Nat, args = [pw n, pw m] ∧ n < M256 ∧ m < M256 ∧ k [pw ((n + M256 - m) % M256), .s (.v (.int .u64 ((if n < m then 1 else 0 : Nat) : Int)))] := by
 refine Sound.of_body tt_ok ent_ok Tryd.func58 rfl ?_
 rintro ar har Γ hΓ args k ⟨n, m, rfl, hn, hm, hk⟩
 obtain ⟨a0, a1, a2, a3, ha0, ha1, ha2, ha3, rfl⟩ := v4_of n hn
 obtain ⟨b0, b1, b2, b3, hb0, hb1, hb2, hb3, rfl⟩ := v4_of m hm
 unfold pw
 rw [w4_v4 ha0 ha1 ha2 ha3, w4_v4 hb0 hb1 hb2 hb3]
 obtain ⟨x0, hx0⟩ : ∃ z : Int, z = a0 := ⟨_, rfl⟩
 obtain ⟨x1, hx1⟩ : ∃ z : Int, z = a1 := ⟨_, rfl⟩
 obtain ⟨x2, hx2⟩ : ∃ z : Int, z = a2 := ⟨_, rfl⟩
 obtain ⟨x3, hx3⟩ : ∃ z : Int, z = a3 := ⟨_, rfl⟩
 obtain ⟨y0, hy0⟩ : ∃ z : Int, z = b0 := ⟨_, rfl⟩
 obtain ⟨y1, hy1⟩ : ∃ z : Int, z = b1 := ⟨_, rfl⟩
 obtain ⟨y2, hy2⟩ : ∃ z : Int, z = b2 := ⟨_, rfl⟩
 obtain ⟨y3, hy3⟩ : ∃ z : Int, z = b3 := ⟨_, rfl⟩
 rw [← hx0, ← hx1, ← hx2, ← hx3, ← hy0, ← hy1, ← hy2, ← hy3]
 obtain ⟨d0, c1, e0, f0, g0, h0, q0⟩ := sub_step ha0 hb0 (Nat.zero_le 1)
 obtain ⟨d1, c2, e1, f1, g1, h1, q1⟩ := sub_step ha1 hb1 h0
 obtain ⟨d2, c3, e2, f2, g2, h2, q2⟩ := sub_step ha2 hb2 h1
 obtain ⟨d3, c4, e3, f3, g3, h3, q3⟩ := sub_step ha3 hb3 h2
 have s0 : ar.xop 1 [x0, y0, 0] = d0 := by rw [har, hx0, hy0]; exact e0
 have t0 : ar.xop 2 [x0, y0, 0] = c1 := by rw [har, hx0, hy0]; exact f0
 have s1 : ar.xop 1 [x1, y1, ar.xop 2 [x0, y0, 0]] = d1 := by rw [t0, har, hx1, hy1]; exact e1
 have t1 : ar.xop 2 [x1, y1, ar.xop 2 [x0, y0, 0]] = c2 := by rw [t0, har, hx1, hy1]; exact f1
 have s2 : ar.xop 1 [x2, y2, ar.xop 2 [x1, y1, ar.xop 2 [x0, y0, 0]]] = d2 := by rw [t1, har, hx2, hy2]; exact e2
 have t2 : ar.xop 2 [x2, y2, ar.xop 2 [x1, y1, ar.xop 2 [x0, y0, 0]]] = c3 := by rw [t1, har, hx2, hy2]; exact f2
 have s3 : ar.xop 1 [x3, y3, ar.xop 2 [x2, y2, ar.xop 2 [x1, y1, ar.xop 2 [x0, y0, 0]]]] = d3 := by rw [t2, har, hx3, hy3]; exact e3
 have t3 : ar.xop 2 [x3, y3, ar.xop 2 [x2, y2, ar.xop 2 [x1, y1, ar.xop 2 [x0, y0, 0]]]] = c4 := by rw [t2, har, hx3, hy3]; exact f3
 have key : v4 d0 d1 d2 d3 + v4 b0 b1 b2 b3 = v4 a0 a1 a2 a3 + M256 * c4 := by unfold v4 M256; omega
 have hlt : v4 d0 d1 d2 d3 < M256 := by unfold v4 M256; omega
 have hfin := sub_fin key hlt hn h3
 have hval := hfin.1
 have hbor := hfin.2
 unfold pw at hk
 rw [hval, hbor, w4_v4 g0 g1 g2 g3] at hk
 have hk2 : k [PR.a [.r 4 [.int .u64 (ar.xop 1 [x0, y0, 0]), .int .u64 (ar.xop 1 [x1, y1, ar.xop 2 [x0, y0, 0]]), .int .u64 (ar.xop 1 [x2, y2, ar.xop 2 [x1, y1, ar.xop 2 [x0, y0, 0]]]),
   .int .u64 (ar.xop 1 [x3, y3, ar.xop 2 [x2, y2, ar.xop 2 [x1, y1, ar.xop 2 [x0, y0, 0]]]])]], .s (.v (.int .u64 (ar.xop 2 [x3, y3, ar.xop 2 [x2, y2, ar.xop 2 [x1, y1, ar.xop 2 [x0, y0, 0]]]])))] := by
  rw [s0, s1, s2, s3, t3]; exact hk
 have b1 : 0 ≤ ar.xop 2 [x0, y0, 0] ∧ ar.xop 2 [x0, y0, 0] ≤ 1 := by rw [t0]; omega
 have b2 : 0 ≤ ar.xop 2 [x1, y1, ar.xop 2 [x0, y0, 0]] ∧ ar.xop 2 [x1, y1, ar.xop 2 [x0, y0, 0]] ≤ 1 := by rw [t1]; omega
 have b3 : 0 ≤ ar.xop 2 [x2, y2, ar.xop 2 [x1, y1, ar.xop 2 [x0, y0, 0]]] ∧ ar.xop 2 [x2, y2, ar.xop 2 [x1, y1, ar.xop 2 [x0, y0, 0]]] ≤ 1 := by rw [t2]; omega
 clear hk s0 s1 s2 s3 t0 t1 t2 t3 hval hbor
 cbv
 refine .inl ⟨5, ?_⟩
 cbv
 exact ⟨by rw [har]; kernel_rfl, fun _ => ⟨by omega, by omega⟩, by rw [har]; kernel_rfl, fun _ => b1, by rw [har]; kernel_rfl, fun _ => b2, by rw [har]; kernel_rfl, fun _ => b3, hk2⟩
end Go.Eng
namespace Go.Eng
open Go Go.Proofs
set_option maxRecDepth 100000
theorem ints_w4 (n : Nat) : ints .u64 (w4 n) := by
 intro w hw
 simp only [w4, List.mem_cons, List.not_mem_nil, or_false] at hw
 rcases hw with rfl | rfl | rfl | rfl <;> exact ⟨_, rfl⟩
theorem eqVals_w4 {n m : Nat} (hn : n < M256) (hm : m < M256) : eqVals (w4 n) (w4 m) = decide (n = m) := by
 by_cases h : n = m
 ·subst h
  simp [w4, eqVals, intEq]
 ·rw [decide_eq_false h]
  obtain ⟨a0, a1, a2, a3, ha0, ha1, ha2, ha3, rfl⟩ := v4_of n hn
  obtain ⟨b0, b1, b2, b3, hb0, hb1, hb2, hb3, rfl⟩ := v4_of m hm
  rw [w4_v4 ha0 ha1 ha2 ha3, w4_v4 hb0 hb1 hb2 hb3]
  simp only [eqVals, intEq, beq_self_eq_true, Bool.true_and, Bool.and_true]
  rw [Bool.eq_false_iff]
  intro e
  simp only [Bool.and_eq_true, beq_iff_eq] at e
  obtain ⟨e0, e1, e2, e3⟩ := e
  have : a0 = b0 := by omega
  have : a1 = b1 := by omega
  have : a2 = b2 := by omega
  have : a3 = b3 := by omega
  subst a0 a1 a2 a3
  exact h rfl
def cmpN (n m : Nat) : Int := if n = m then 0 else if n < m then -1 else 1
theorem u256Cmp_sound : Sound Tryd.prog 36 fun args k => ∃ n m : Nat, args = [pw n, pw m] ∧ n < M256 ∧ m < M256 ∧ k [.s (.v (.int .i64 (cmpN n m)))] := by
 refine Sound.of_body tt_ok ent_ok Tryd.func36 rfl ?_
 rintro ar har Γ hΓ args k ⟨n, m, rfl, hn, hm, hk⟩
 obtain ⟨x, hx⟩ : ∃ x, x = w4 n := ⟨_, rfl⟩
 obtain ⟨y, hy⟩ : ∃ y, y = w4 m := ⟨_, rfl⟩
 obtain ⟨z, hz⟩ : ∃ z, z = w4 ((n + M256 - m) % M256) := ⟨_, rfl⟩
 obtain ⟨c, hc⟩ : ∃ c : Int, c = ((if n < m then 1 else 0 : Nat) : Int) := ⟨_, rfl⟩
 obtain ⟨r, hr⟩ : ∃ r, r = cmpN n m := ⟨_, rfl⟩
 unfold pw
 rw [← hx, ← hy]
 rw [← hr] at hk
 cbv
 refine ⟨fun _ => ⟨by rw [hx]; exact ints_w4 n, by rw [hy]; exact ints_w4 m⟩, fun he => ?_, fun he => ?_⟩
 ·have e : n = m := by
   have h2 : ar.eqv x y = true := he
   rw [har, hx, hy] at h2
   have h3 : eqVals (w4 n) (w4 m) = true := h2
   rw [eqVals_w4 hn hm] at h3
   exact of_decide_eq_true h3
  cbv
  have e2 : r = 0 := by rw [hr, cmpN, if_pos e]
  rw [e2] at hk
  exact hk
 ·have e : n ≠ m := by
   have h2 : ar.eqv x y = false := he
   rw [har, hx, hy] at h2
   have h3 : eqVals (w4 n) (w4 m) = false := h2
   rw [eqVals_w4 hn hm] at h3
   exact of_decide_eq_false h3
  cbv
  refine call_by hΓ u256Sub_sound ⟨n, m, by rw [hx, hy], hn, hm, ?_⟩
  have hc : c = ((if n < m then 1 else 0 : Nat) : Int) := hc
  have hz : z = w4 ((n + M256 - m) % M256) := hz
  unfold pw
  rw [← hz, ← hc]
  cbv
  refine ⟨fun hb => ?_, fun hb => ?_⟩
  ·have h1 : c = 1 := by
    have h2 : ar.cb .eql c 1 = true := hb
    rw [har] at h2
    simpa [arS, intC] using h2
   cbv
   have e2 : r = -1 := by
    rw [hr, cmpN, if_neg e, if_pos]
    rw [h1] at hc
    by_cases hlt : n < m
    ·exact hlt
    ·rw [if_neg hlt] at hc; exact absurd hc (by decide)
   rw [e2] at hk
   exact hk
  ·have h1 : c ≠ 1 := by
    have h2 : ar.cb .eql c 1 = false := hb
    rw [har] at h2
    simpa [arS, intC] using h2
   cbv
   have e2 : r = 1 := by
    rw [hr, cmpN, if_neg e, if_neg]
    intro hlt
    rw [if_pos hlt] at hc
    exact h1 hc
   rw [e2] at hk
   exact hk
end Go.Eng
namespace Go.Eng
open Go Go.Proofs
set_option maxRecDepth 100000
end Go.Eng
namespace Go.Eng
open Go Go.Proofs
set_option maxRecDepth 100000
end Go.Eng
namespace Go.Eng
open Go Go.Proofs
set_option maxRecDepth 100000
def n64s (l : List Nat) : List Value := l.map fun n : Nat => .int .u64 (n : Int)
def val32 : List Nat → Nat
 | [] => 0
 | x :: l => x + 4294967296 * val32 l
theorem val_snoc (l : List Nat) (x : Nat) : val32 (l ++ [x]) = val32 l + 4294967296 ^ l.length * x := by
 induction l with
 | nil => simp [val32]
 | cons y l ih => simp only [List.cons_append, val32, ih, List.length_cons, Nat.pow_succ, Nat.mul_add]; rw [Nat.mul_comm (4294967296 ^ l.length) 4294967296, Nat.mul_assoc]; omega
theorem val_step {A B C E b x y r b' : Nat} (h : A + B = C + E * b) (hr : r + y + b = x + 4294967296 * b') : A + E * r + (B + E * y) = C + E * x + E * 4294967296 * b' := by
 have h1 : E * r + E * y + E * b = E * x + E * 4294967296 * b' := by
  rw [← Nat.mul_add, ← Nat.mul_add, hr, Nat.mul_add, Nat.mul_assoc]
 omega
end Go.Eng
namespace Go.Eng
open Go Go.Proofs
set_option maxRecDepth 100000
def SubI (xs ys : List Nat) (q : Nat × Int × List Value × Int) : Prop :=
 q.1 ≤ 8 ∧ q.2.1 = q.1 ∧ ∃ (rs : List Nat) (b : Nat), q.2.2.2 = b ∧ b ≤ 1 ∧ rs.length = q.1 ∧ (∀ r ∈ rs, r < 4294967296) ∧ q.2.2.1 = n64s (rs ++ xs.drop q.1) ∧
  val32 rs + val32 (ys.take q.1) = val32 (xs.take q.1) + 4294967296 ^ q.1 * b
theorem SubI.next {xs ys : List Nat} {p : Nat} {pi' b'' : Int} {Z' : List Value} {rs : List Nat} {u w b r b' : Nat} (hp : p < 8) (hrl : rs.length = p) (hrb : ∀ r ∈ rs, r < 4294967296) (hu : xs[p]? = some u) (hw : ys[p]? = some w) (ly : ys.length = 8) (lx : xs.length = 8)
  (hval : val32 rs + val32 (ys.take p) = val32 (xs.take p) + 4294967296 ^ p * b) (hr : r + w + b = u + 4294967296 * b') (hr32 : r < 4294967296) (hb : b' ≤ 1) (hpi : pi' = ((p + 1 : Nat) : Int)) (hbb : b'' = b') (hZ : Z' = n64s (rs ++ r :: xs.drop (p + 1))) :
  SubI xs ys (p + 1, pi', Z', b'') := by
 refine ⟨hp, hpi, rs ++ [r], b', hbb, hb, by simp [hrl], fun q hq => ?_, by simp [hZ], ?_⟩
 ·rcases List.mem_append.1 hq with hq | hq
  ·exact hrb q hq
  ·rw [List.mem_singleton.1 hq]; exact hr32
 ·have tx : xs.take (p + 1) = xs.take p ++ [u] := by rw [List.take_add_one, hu]; rfl
  have ty : ys.take (p + 1) = ys.take p ++ [w] := by rw [List.take_add_one, hw]; rfl
  have l1 : (xs.take p).length = p := by rw [List.length_take, lx]; omega
  have l2 : (ys.take p).length = p := by rw [List.length_take, ly]; omega
  rw [tx, ty, val_snoc, val_snoc, val_snoc, hrl, l1, l2, Nat.pow_succ]
  exact val_step hval hr
end Go.Eng
namespace Go.Eng
open Go Go.Proofs
set_option maxRecDepth 100000
end Go.Eng
namespace Go.Eng
open Go Go.Proofs
theorem wrapU {n : Int} : IntKind.u64.wrap n = n % 18446744073709551616 := by
 simp [IntKind.wrap, IntKind.bits, IntKind.signed]
theorem bv_u64 {n : Nat} (h : n < 18446744073709551616) : (BitVec.ofInt 64 (n : Int)).toNat = n := by
 rw [BitVec.toNat_ofInt]; omega
theorem ib_or64 {a b : Nat} (ha : a < 18446744073709551616) (hb : b < 18446744073709551616) : intB .or .u64 (a : Int) (b : Int) = ((a ||| b : Nat) : Int) := by
 show IntKind.u64.wrap ((BitVec.ofInt 64 (a : Int) ||| BitVec.ofInt 64 (b : Int)).toNat : Int) = _
 rw [wrapU, BitVec.toNat_or, bv_u64 ha, bv_u64 hb]
 have := Nat.or_lt_two_pow (n := 64) ha hb
 omega
theorem ib_and64 {a b : Nat} (ha : a < 18446744073709551616) (hb : b < 18446744073709551616) : intB .and .u64 (a : Int) (b : Int) = ((a &&& b : Nat) : Int) := by
 show IntKind.u64.wrap ((BitVec.ofInt 64 (a : Int) &&& BitVec.ofInt 64 (b : Int)).toNat : Int) = _
 rw [wrapU, BitVec.toNat_and, bv_u64 ha, bv_u64 hb]
 have := Nat.and_lt_two_pow (n := 64) a hb
 omega
theorem ib_shr64 {k : IntKind} {a s : Nat} (hs : s ≤ k.bits) : intB .shr k (a : Int) (s : Int) = ((a / 2 ^ s : Nat) : Int) := by
 simp only [intB, Int.toNat_natCast]
 rw [show min s k.bits = s from Nat.min_eq_left hs]
 rw [Int.fdiv_eq_ediv_of_nonneg _ (by exact Int.pow_nonneg (by omega))]
 simp
theorem ib_shl64 {a s : Nat} (hs : s ≤ 64) : intB .shl .u64 (a : Int) (s : Int) = ((a * 2 ^ s % 18446744073709551616 : Nat) : Int) := by
 simp only [intB, Int.toNat_natCast, wrapU]
 rw [show min s IntKind.u64.bits = s from Nat.min_eq_left hs]
 simp
theorem or_add {a b s : Nat} (ha : a < 2 ^ s) : a ||| (b * 2 ^ s) = a + b * 2 ^ s := by
 have := Nat.shiftLeft_add_eq_or_of_lt ha b
 rw [Nat.shiftLeft_eq] at this
 rw [Nat.or_comm, ← this, Nat.add_comm]
end Go.Eng
namespace Go.Eng
open Go Go.Proofs
set_option maxRecDepth 100000
theorem shr1_word {a b : Nat} (ha : a < 18446744073709551616) (_hb : b < 18446744073709551616) :
  intB .or .u64 (intB .shr .u64 (a : Int) 1) (intB .shl .u64 (b : Int) 63) = ((a / 2 + b % 2 * 9223372036854775808 : Nat) : Int) := by
 have h1 := ib_shr64 (k := .u64) (a := a) (s := 1) (by decide)
 have h2 := ib_shl64 (a := b) (s := 63) (by omega)
 rw [show ((1 : Nat) : Int) = 1 from rfl] at h1
 rw [show ((63 : Nat) : Int) = 63 from rfl] at h2
 rw [h1, h2]
 have e : b * 2 ^ 63 % 18446744073709551616 = (b % 2) * 2 ^ 63 := by omega
 rw [e, ib_or64 (by omega) (by omega), or_add (by omega)]
theorem shr1_top {a : Nat} : intB .shr .u64 (a : Int) 1 = ((a / 2 : Nat) : Int) := by
 have h1 := ib_shr64 (k := .u64) (a := a) (s := 1) (by decide)
 rw [show ((1 : Nat) : Int) = 1 from rfl] at h1
 rw [h1]
theorem half_v4 {a b c d : Nat} : v4 a b c d / 2 = v4 (a / 2 + b % 2 * 9223372036854775808) (b / 2 + c % 2 * 9223372036854775808) (c / 2 + d % 2 * 9223372036854775808) (d / 2) := by
 unfold v4; omega
theorem u256Shr1_sound : Sound Tryd.prog 59 fun args k => ∃ n : Nat, args = [pw n, .s (.v (.int .i64 1))] ∧ n < M256 ∧ k [pw (n / 2)] := by
 obtain ⟨bs, hbs⟩ : ∃ bs : List Bool, bs = [false, true] := ⟨_, rfl⟩
 refine Sound.of_bodyL bs 0 tt_ok ent_ok Tryd.func59 rfl ?_
 rintro ar har Γ hΓ args k ⟨n, rfl, hn, hk⟩
 obtain ⟨a0, a1, a2, a3, ha0, ha1, ha2, ha3, rfl⟩ := v4_of n hn
 obtain ⟨x0, hx0⟩ : ∃ z : Int, z = a0 := ⟨_, rfl⟩
 obtain ⟨x1, hx1⟩ : ∃ z : Int, z = a1 := ⟨_, rfl⟩
 obtain ⟨x2, hx2⟩ : ∃ z : Int, z = a2 := ⟨_, rfl⟩
 obtain ⟨x3, hx3⟩ : ∃ z : Int, z = a3 := ⟨_, rfl⟩
 have hib : ar.ib = intB := by rw [har]; rfl
 have e0 : ar.ib .or .u64 (ar.ib .shr .u64 x0 1) (ar.ib .shl .u64 x1 63) = ((a0 / 2 + a1 % 2 * 9223372036854775808 : Nat) : Int) := by rw [hib, hx0, hx1]; exact shr1_word ha0 ha1
 have e1 : ar.ib .or .u64 (ar.ib .shr .u64 x1 1) (ar.ib .shl .u64 x2 63) = ((a1 / 2 + a2 % 2 * 9223372036854775808 : Nat) : Int) := by rw [hib, hx1, hx2]; exact shr1_word ha1 ha2
 have e2 : ar.ib .or .u64 (ar.ib .shr .u64 x2 1) (ar.ib .shl .u64 x3 63) = ((a2 / 2 + a3 % 2 * 9223372036854775808 : Nat) : Int) := by rw [hib, hx2, hx3]; exact shr1_word ha2 ha3
 have e3 : ar.ib .shr .u64 x3 1 = ((a3 / 2 : Nat) : Int) := by rw [hib, hx3]; exact shr1_top (a := a3)
 have hw := w4_v4 (a := a0 / 2 + a1 % 2 * 9223372036854775808) (b := a1 / 2 + a2 % 2 * 9223372036854775808) (c := a2 / 2 + a3 % 2 * 9223372036854775808) (d := a3 / 2) (by omega) (by omega) (by omega) (by omega)
 rw [← half_v4, ← e0, ← e1, ← e2, ← e3] at hw
 unfold pw at hk ⊢
 rw [hw] at hk
 rw [w4_v4 ha0 ha1 ha2 ha3, ← hx0, ← hx1, ← hx2, ← hx3]
 clear hw e0 e1 e2 e3 hn
 subst hbs
 cbv
 refine .inl ⟨5, ?_⟩
 cbv
 refine ⟨by rw [har]; kernel_rfl, ?_⟩
 cbv
 refine ⟨by rw [har]; kernel_rfl, ?_⟩
 cbv
 refine ⟨by rw [har]; kernel_rfl, ?_⟩
 cbv
 exact hk
end Go.Eng
namespace Go.Eng
open Go Go.Proofs
set_option maxRecDepth 100000
theorem w4_get (n : Nat) {j : Nat} (hj : j < 4) : (w4 n)[j]? = some (.int .u64 ((n / 2 ^ (64 * j) % 18446744073709551616 : Nat) : Int)) := by
 match j, hj with
 | 0, _ => simp [w4]
 | 1, _ => rfl
 | 2, _ => rfl
 | 3, _ => rfl
theorem word_bit (n j q : Nat) (hq : q < 64) : (n / 2 ^ (64 * j) % 18446744073709551616).testBit q = n.testBit (64 * j + q) := by
 have := Nat.testBit_mod_two_pow (n / 2 ^ (64 * j)) 64 q
 rw [show (18446744073709551616 : Nat) = 2 ^ 64 from rfl, this, Nat.testBit_div_two_pow, decide_eq_true hq, Bool.true_and]
 congr 1; omega
end Go.Eng
namespace Go.Eng
open Go Go.Proofs
set_option maxRecDepth 100000
end Go.Eng
namespace Go.Eng
open Go Go.Proofs
set_option maxRecDepth 100000
set_option maxHeartbeats 2000000
def chC (n : Nat) : Nat := if 35 ≤ n ∧ 1 ≤ (n - 35) / 2 ∧ (n - 35) / 2 ≤ 9223372036854775807 then (n - 35) / 2 else 0
def chN (n : Nat) : Bool := decide (35 ≤ n ∧ 1 ≤ (n - 35) / 2 ∧ (n - 35) / 2 ≤ 9223372036854775807)
def chO (n : Nat) : Bool := decide (n = 28 ∨ (35 ≤ n ∧ 1 ≤ (n - 35) / 2 ∧ (n - 35) / 2 ≤ 9223372036854775807 ∧ (n - 35) % 2 = 1))
def chE (n : Nat) : Int := if n = 27 ∨ n = 28 ∨ (35 ≤ n ∧ 1 ≤ (n - 35) / 2 ∧ (n - 35) / 2 ≤ 9223372036854775807) then 0 else 154
theorem w4_zero : w4 0 = [.int .u64 0, .int .u64 0, .int .u64 0, .int .u64 0] := rfl
theorem w4_small {n : Nat} (h : n < 18446744073709551616) : w4 n = [.int .u64 n, .int .u64 0, .int .u64 0, .int .u64 0] := by
 have := w4_v4 (a := n) (b := 0) (c := 0) (d := 0) h (by omega) (by omega) (by omega)
 simpa [v4] using this
theorem w4_head (n : Nat) : ∃ l, w4 n = .int .u64 ((n % 18446744073709551616 : Nat) : Int) :: l := ⟨_, rfl⟩
theorem txChain_sound : Sound Tryd.prog 38 fun args k => ∃ n : Nat, args = [pw n] ∧ n < M256 ∧ k [.s (.v (.int .u64 (chC n))), .s (.v (.bool (chN n))), .s (.v (.bool (chO n))), .s (.v (.int .i64 (chE n)))] := by
 refine Sound.of_body tt_ok ent_ok Tryd.func38 rfl ?_
 rintro ar har Γ hΓ args k ⟨n, rfl, hn, hk⟩
 obtain ⟨x, hx⟩ : ∃ x, x = w4 n := ⟨_, rfl⟩
 obtain ⟨x27, h27⟩ : ∃ x, x = w4 27 := ⟨_, rfl⟩
 obtain ⟨c1, hc1⟩ : ∃ x : Int, x = (chC n : Int) := ⟨_, rfl⟩
 obtain ⟨c2, hc2⟩ : ∃ x, x = chN n := ⟨_, rfl⟩
 obtain ⟨c3, hc3⟩ : ∃ x, x = chO n := ⟨_, rfl⟩
 obtain ⟨c4, hc4⟩ : ∃ x, x = chE n := ⟨_, rfl⟩
 rw [← hc1, ← hc2, ← hc3, ← hc4] at hk
 unfold pw
 rw [← hx]
 cbv
 obtain ⟨d, hd⟩ : ∃ d, d = (n + M256 - 27) % M256 := ⟨_, rfl⟩
 obtain ⟨y, hy⟩ : ∃ y, y = w4 d := ⟨_, rfl⟩
 obtain ⟨b, hb⟩ : ∃ b : Int, b = ((if n < 27 then 1 else 0 : Nat) : Int) := ⟨_, rfl⟩
 have callFrom : ∀ (Γ : Ctx) (d' : Nat) (k : List PR → Prop), Γ = ctx Tryd.prog d' → k [.a [.r 4 x27]] → Γ.g 37 [.s (.v (.int .u64 27))] k := fun Γ d' k hΓ hk => call_by' hΓ u256From_sound ⟨27, rfl, by omega, by unfold pw; rw [← h27]; exact hk⟩
 have callSub : ∀ (Γ : Ctx) (d' : Nat) (k : List PR → Prop), Γ = ctx Tryd.prog d' → k [.a [.r 4 y], .s (.v (.int .u64 b))] → Γ.g 58 [.a [.r 4 x], .a [.r 4 x27]] k := fun Γ d' k hΓ hk => call_by' hΓ u256Sub_sound ⟨n, 27, by rw [hx, h27], hn, by unfold M256; omega, by unfold pw; rw [← hd, ← hy, ← hb]; exact hk⟩
 obtain ⟨x35, h35⟩ : ∃ x, x = w4 35 := ⟨_, rfl⟩
 obtain ⟨d5, hd5⟩ : ∃ d, d = (n + M256 - 35) % M256 := ⟨_, rfl⟩
 obtain ⟨y5, hy5⟩ : ∃ y, y = w4 d5 := ⟨_, rfl⟩
 obtain ⟨b5, hb5⟩ : ∃ b : Int, b = ((if n < 35 then 1 else 0 : Nat) : Int) := ⟨_, rfl⟩
 have callFrom5 : ∀ (Γ : Ctx) (d' : Nat) (k : List PR → Prop), Γ = ctx Tryd.prog d' → k [.a [.r 4 x35]] → Γ.g 37 [.s (.v (.int .u64 35))] k := fun Γ d' k hΓ hk => call_by' hΓ u256From_sound ⟨35, rfl, by omega, by unfold pw; rw [← h35]; exact hk⟩
 have callSub5 : ∀ (Γ : Ctx) (d' : Nat) (k : List PR → Prop), Γ = ctx Tryd.prog d' → k [.a [.r 4 y5], .s (.v (.int .u64 b5))] → Γ.g 58 [.a [.r 4 x], .a [.r 4 x35]] k := fun Γ d' k hΓ hk => call_by' hΓ u256Sub_sound ⟨n, 35, by rw [hx, h35], hn, by unfold M256; omega, by unfold pw; rw [← hd5, ← hy5, ← hb5]; exact hk⟩
 have later : ∀ {P : Prop}, (n ≠ 27 ∧ n ≠ 28 → P) → (¬ (n = 27 ∨ n = 28)) → P := fun h g => h ⟨fun e => g (.inl e), fun e => g (.inr e)⟩
 refine ⟨Unit, fun _ => ⟨mk 55 [(1, .s (.ptr 0 0)), (2, .s (.lit .u64 0)), (3, .s (.bl false)), (4, .s (.bl false)), (5, .s (.lit .i64 0)), (6, .s (.ptr 1 0)), (7, .s (.p (.v (.int .u64 b))))], [.box [.r 4 x], .box [.r 4 y]]⟩, ?_, fun _ => ?_⟩
 ·cbv
  refine ⟨callFrom _ _ _ hΓ ?_, ?_⟩
  ·cbv
   refine ⟨callSub _ _ _ hΓ ?_, ?_⟩
   ·cbv
    exact ⟨(), by cbv; simp⟩
   ·cbv
    refine callSub _ _ _ hΓ ?_
    cbv
    exact ⟨(), by cbv; simp⟩
  ·cbv
   refine callFrom _ _ _ hΓ ?_
   cbv
   refine callSub _ _ _ hΓ ?_
   cbv
   exact ⟨(), by cbv; simp⟩
 ·cbv
  have hb' : (n < 27 ∧ b = 1) ∨ (27 ≤ n ∧ b = 0) := by
   rw [hb]; split
   ·exact .inl ⟨by omega, rfl⟩
   ·exact .inr ⟨by omega, rfl⟩
  have hb5' : (n < 35 ∧ b5 = 1) ∨ (35 ≤ n ∧ b5 = 0) := by
   rw [hb5]; split
   ·exact .inl ⟨by omega, rfl⟩
   ·exact .inr ⟨by omega, rfl⟩
  have hdn : 27 ≤ n → d = n - 27 := fun h => by rw [hd, show n + M256 - 27 = n - 27 + M256 by omega, Nat.add_mod_right, Nat.mod_eq_of_lt (Nat.lt_of_le_of_lt (Nat.sub_le _ _) hn)]
  have hdn5 : 35 ≤ n → d5 = n - 35 := fun h => by rw [hd5, show n + M256 - 35 = n - 35 + M256 by omega, Nat.add_mod_right, Nat.mod_eq_of_lt (Nat.lt_of_le_of_lt (Nat.sub_le _ _) hn)]
  have hdl : d < M256 := by rw [hd]; exact Nat.mod_lt _ (by omega)
  have hdl5 : d5 < M256 := by rw [hd5]; exact Nat.mod_lt _ (by omega)
  clear hd hd5
  have fail : ¬ (n = 27 ∨ n = 28 ∨ (35 ≤ n ∧ 1 ≤ (n - 35) / 2 ∧ (n - 35) / 2 ≤ 9223372036854775807)) → k [.s (.v (.int .u64 0)), .s (.v (.bool false)), .s (.v (.bool false)), .s (.v (.int .i64 154))] := fun h => by
   have e1 : c1 = 0 := by rw [hc1, chC, if_neg (fun g => h (.inr (.inr g)))]; rfl
   have e2 : c2 = false := by rw [hc2, chN, decide_eq_false (fun g => h (.inr (.inr g)))]
   have e3 : c3 = false := by rw [hc3, chO, decide_eq_false (fun g => h (.inr (g.imp id fun g => ⟨g.1, g.2.1, g.2.2.1⟩)))]
   have e4 : c4 = 154 := by rw [hc4, chE, if_neg h]
   rw [e1, e2, e3, e4] at hk; exact hk
  refine ⟨by rw [har]; kernel_rfl, fun h1 => ?_, fun h1 => ?_⟩
  ·have g1 : 27 ≤ n := by have := cEq har h1; omega
   obtain ⟨x1, hx1⟩ : ∃ x, x = w4 1 := ⟨_, rfl⟩
   obtain ⟨m, hm⟩ : ∃ m : Int, m = cmpN d 1 := ⟨_, rfl⟩
   have hm' : (d ≤ 1 ∧ m ≤ 0) ∨ (1 < d ∧ m = 1) := by
    rw [hm, cmpN]; split
    ·left; omega
    ·split
     ·left; omega
     ·right; omega
   have hd1 := hdn g1
   cbv
   refine call_by' hΓ u256From_sound ⟨1, rfl, by omega, ?_⟩
   unfold pw
   rw [← hx1]
   cbv
   refine call_by' hΓ u256Cmp_sound ⟨d, 1, by rw [hy, hx1], hdl, by unfold M256; omega, ?_⟩
   rw [← hm]
   cbv
   refine ⟨fun h2 => ?_, fun h2 => ?_⟩
   ·have g2 := cLe har h2
    have g3 : d ≤ 1 := by omega
    have hyd : y = [.int .u64 (d : Int), .int .u64 0, .int .u64 0, .int .u64 0] := by rw [hy]; exact w4_small (by omega)
    obtain ⟨di, hdi⟩ : ∃ z : Int, z = d := ⟨_, rfl⟩
    rw [← hdi] at hyd
    rw [hyd]
    cbv
    refine ⟨by rw [har]; kernel_rfl, ?_⟩
    have e1 : c1 = 0 := by rw [hc1, chC, if_neg (by omega)]; rfl
    have e2 : c2 = false := by rw [hc2, chN, decide_eq_false (by omega)]
    have e3 : c3 = ar.cb .eql di 1 := by
     rw [cIs har, hc3, chO, hdi]
     show _ = decide ((d : Int) = 1)
     rw [decide_eq_decide]; omega
    have e4 : c4 = 0 := by rw [hc4, chE, if_pos (by omega)]
    rw [e1, e2, e3, e4] at hk
    exact hk
   ·have g2 := cNle har h2
    have g3 : 28 < n := by omega
    cbv
    refine ⟨Unit, fun _ => ⟨mk 55 [(1, .s (.ptr 0 0)), (2, .s (.lit .u64 0)), (3, .s (.bl false)), (4, .s (.bl false)), (5, .s (.lit .i64 0)), (8, .s (.ptr 2 0)), (9, .s (.p (.v (.int .u64 b5))))], [.box [.r 4 x], .gone, .box [.r 4 y5]]⟩, ?_, fun _ => ?_⟩
    ·cbv
     refine ⟨callFrom5 _ _ _ hΓ ?_, ?_⟩
     ·cbv
      refine ⟨callSub5 _ _ _ hΓ ?_, ?_⟩
      ·cbv
       exact ⟨(), by cbv; simp⟩
      ·cbv
       refine callSub5 _ _ _ hΓ ?_
       cbv
       exact ⟨(), by cbv; simp⟩
     ·cbv
      refine callFrom5 _ _ _ hΓ ?_
      cbv
      refine callSub5 _ _ _ hΓ ?_
      cbv
      exact ⟨(), by cbv; simp⟩
    ·cbv
     refine call_by hΓ u256Shr1_sound ⟨d5, by rw [hy5], hdl5, ?_⟩
     obtain ⟨yh, hyh⟩ : ∃ y, y = w4 (d5 / 2) := ⟨_, rfl⟩
     unfold pw
     rw [← hyh]
     cbv
     refine ⟨by rw [har]; kernel_rfl, fun h3 => ?_, fun h3 => ?_⟩
     ·have g4 : 35 ≤ n := by have := cNeq har h3; omega
      have hd2 := hdn5 g4
      have hz4 := w4_zero
      obtain ⟨zz, hzz⟩ : ∃ z, z = [Value.int .u64 0, .int .u64 0, .int .u64 0, .int .u64 0] := ⟨_, rfl⟩
      have heq : ar.eqv yh [Value.int .u64 0, .int .u64 0, .int .u64 0, .int .u64 0] = decide (d5 / 2 = 0) := by
       rw [eqvIs har, hyh, ← w4_zero]
       exact eqVals_w4 (Nat.lt_of_le_of_lt (Nat.div_le_self _ _) hdl5) (by unfold M256; omega)
      have i1 : ints .u64 yh := by rw [hyh]; exact ints_w4 _
      have i2 : ints .u64 [Value.int .u64 0, .int .u64 0, .int .u64 0, .int .u64 0] := by rw [← w4_zero]; exact ints_w4 _
      cbv
      refine ⟨fun _ => ⟨i1, i2⟩, fun h4 => ?_, fun h4 => ?_⟩
      ·have g5 : d5 / 2 ≠ 0 := by
        have h5 : ar.eqv yh [Value.int .u64 0, .int .u64 0, .int .u64 0, .int .u64 0] = false := h4
        rw [heq] at h5; simpa using h5
       obtain ⟨xm, hxm⟩ : ∃ x, x = w4 9223372036854775807 := ⟨_, rfl⟩
       obtain ⟨m2, hm2⟩ : ∃ m : Int, m = cmpN (d5 / 2) 9223372036854775807 := ⟨_, rfl⟩
       have hm2' : (d5 / 2 ≤ 9223372036854775807 ∧ m2 ≤ 0) ∨ (9223372036854775807 < d5 / 2 ∧ m2 = 1) := by
        rw [hm2, cmpN]; split
        ·left; omega
        ·split
         ·left; omega
         ·right; omega
       cbv
       refine call_by' hΓ u256From_sound ⟨9223372036854775807, rfl, by omega, ?_⟩
       unfold pw
       rw [← hxm]
       cbv
       refine call_by' hΓ u256Cmp_sound ⟨d5 / 2, 9223372036854775807, by rw [hyh, hxm], Nat.lt_of_le_of_lt (Nat.div_le_self _ _) hdl5, by unfold M256; omega, ?_⟩
       rw [← hm2]
       cbv
       refine ⟨fun h6 => ?_, fun h6 => ?_⟩
       ·have g6 := cGt har h6
        cbv
        exact fail (by omega)
       ·have g6 := cNgt har h6
        have g7 : d5 / 2 ≤ 9223372036854775807 := by omega
        have hy5w := w4_head d5
        have hyhw : yh = [.int .u64 ((d5 / 2 : Nat) : Int), .int .u64 0, .int .u64 0, .int .u64 0] := by rw [hyh]; exact w4_small (by omega)
        have hy5s : y5 = [.int .u64 ((d5 % 18446744073709551616 : Nat) : Int), .int .u64 ((d5 / 18446744073709551616 : Nat) : Int), .int .u64 0, .int .u64 0] := by
         have := w4_v4 (a := d5 % 18446744073709551616) (b := d5 / 18446744073709551616) (c := 0) (d := 0) (by omega) (by omega) (by omega) (by omega)
         have e : v4 (d5 % 18446744073709551616) (d5 / 18446744073709551616) 0 0 = d5 := by unfold v4; omega
         rw [e] at this
         rw [hy5]; exact this
        obtain ⟨u0, hu0⟩ : ∃ z : Int, z = ((d5 / 2 : Nat) : Int) := ⟨_, rfl⟩
        obtain ⟨u1, hu1⟩ : ∃ z : Int, z = ((d5 % 18446744073709551616 : Nat) : Int) := ⟨_, rfl⟩
        obtain ⟨u2, hu2⟩ : ∃ z : Int, z = ((d5 / 18446744073709551616 : Nat) : Int) := ⟨_, rfl⟩
        rw [← hu0] at hyhw
        rw [← hu1, ← hu2] at hy5s
        rw [hyhw, hy5s]
        have e1 : c1 = u0 := by rw [hc1, chC, if_pos (by omega), hu0, hd2]
        have e2 : c2 = true := by rw [hc2, chN, decide_eq_true (by omega)]
        have e3 : c3 = ar.cb .eql (ar.ib .and .u64 u1 1) 1 := by
         rw [cIs har, iIs har, hc3, chO, hu1, show (1 : Int) = ((1 : Nat) : Int) from rfl, ib_and64 (Nat.mod_lt _ (by omega)) (by omega), Nat.and_one_is_mod]
         show _ = decide (((_ : Nat) : Int) = ((1 : Nat) : Int))
         rw [decide_eq_decide]; omega
        have e4 : c4 = 0 := by rw [hc4, chE, if_pos (by omega)]
        rw [e1, e2, e3, e4] at hk
        cbv
        refine ⟨by rw [har]; kernel_rfl, ?_⟩
        exact hk
      ·have g5 : d5 / 2 = 0 := by
        have h5 : ar.eqv yh [Value.int .u64 0, .int .u64 0, .int .u64 0, .int .u64 0] = true := h4
        rw [heq] at h5; simpa using h5
       cbv
       exact fail (by omega)
     ·have g4 : n < 35 := by have := cEq har h3; omega
      cbv
      exact fail (by omega)
  ·have g1 : n < 27 := by have := cNeq har h1; omega
   cbv
   refine ⟨Unit, fun _ => ⟨mk 55 [(1, .s (.ptr 0 0)), (2, .s (.lit .u64 0)), (3, .s (.bl false)), (4, .s (.bl false)), (5, .s (.lit .i64 0)), (8, .s (.ptr 2 0)), (9, .s (.p (.v (.int .u64 b5))))], [.box [.r 4 x], .gone, .box [.r 4 y5]]⟩, ?_, fun _ => ?_⟩
   ·cbv
    refine ⟨callFrom5 _ _ _ hΓ ?_, ?_⟩
    ·cbv
     refine ⟨callSub5 _ _ _ hΓ ?_, ?_⟩
     ·cbv
      exact ⟨(), by cbv; simp⟩
     ·cbv
      refine callSub5 _ _ _ hΓ ?_
      cbv
      exact ⟨(), by cbv; simp⟩
    ·cbv
     refine callFrom5 _ _ _ hΓ ?_
     cbv
     refine callSub5 _ _ _ hΓ ?_
     cbv
     exact ⟨(), by cbv; simp⟩
   ·cbv
    refine call_by hΓ u256Shr1_sound ⟨d5, by rw [hy5], hdl5, ?_⟩
    obtain ⟨yh, hyh⟩ : ∃ y, y = w4 (d5 / 2) := ⟨_, rfl⟩
    unfold pw
    rw [← hyh]
    cbv
    refine ⟨by rw [har]; kernel_rfl, fun h3 => ?_, fun h3 => ?_⟩
    ·exact absurd (cNeq har h3) (by omega)
    ·cbv
     exact fail (by omega)
end Go.Eng
namespace Go.Eng
open Go Go.Proofs
def u8s (bs : List Int) : List Value := bs.map (.int .u8)
def key (w : List Int) : List PS := [.r 32 (u8s w)]
theorem ints_u8s (bs : List Int) : ints .u8 (u8s bs) := by
 intro w hw
 simp only [u8s, List.mem_map] at hw
 obtain ⟨n, _, rfl⟩ := hw
 exact ⟨n, rfl⟩
theorem eqVals_u8s : ∀ (a b : List Int), eqVals (u8s a) (u8s b) = (a == b)
 | [], [] => rfl
 | [], _ :: _ => rfl
 | _ :: _, [] => rfl
 | x :: a, y :: b => by
  have := eqVals_u8s a b
  simp only [u8s, List.map_cons, eqVals, intEq, beq_self_eq_true, Bool.true_and] at this ⊢
  rw [this]; rfl
structure Ent where
 a : List Int
 ks : List (List Int)
 sp : List (List PS)
def Ent.row (e : Ent) : List PS := [.r 20 (u8s e.a), .c (.sl (e.ks.map key) e.sp)]
def Ent.core (e : Ent) : List Int × List (List Int) := (e.a, e.ks)
end Go.Eng
namespace Go.Eng
open Go Go.Proofs
set_option maxRecDepth 100000
end Go.Eng
namespace Go.Eng
open Go Go.Proofs
set_option maxRecDepth 100000
end Go.Eng
namespace Go.Eng
open Go Go.Proofs
def mark32 : List Int := 195 :: List.replicate 31 0
def Ent.trow (e : Ent) : List PS := [.r 20 (u8s e.a), .c (.sl (e.ks.map key) [key mark32])]
set_option maxRecDepth 100000
end Go.Eng
namespace Go.Eng
open Go Go.Proofs
set_option maxRecDepth 100000
set_option linter.unusedVariables false
def bytesOk (bs : List Int) : Prop := ∀ b ∈ bs, 0 ≤ b ∧ b < 256
structure Au where
 ch : Nat
 a : List Int
 no : Nat
 pa : Nat
 r : Nat
 s : Nat
def Au.row (u : Au) : List PS := [.r 4 (w4 u.ch), .r 20 (u8s u.a), .c (.v (.int .u64 u.no)), .c (.v (.int .u64 u.pa)), .r 4 (w4 u.r), .r 4 (w4 u.s)]
def Au.ok (u : Au) : Prop := u.ch < M256 ∧ u.a.length = 20 ∧ u.no < 18446744073709551616 ∧ u.pa < 18446744073709551616 ∧ u.r < M256 ∧ u.s < M256
theorem list20 : ∀ a : List Int, a.length = 20 → ∃ a0 a1 a2 a3 a4 a5 a6 a7 a8 a9 a10 a11 a12 a13 a14 a15 a16 a17 a18 a19, a = [a0, a1, a2, a3, a4, a5, a6, a7, a8, a9, a10, a11, a12, a13, a14, a15, a16, a17, a18, a19]
 | [a0, a1, a2, a3, a4, a5, a6, a7, a8, a9, a10, a11, a12, a13, a14, a15, a16, a17, a18, a19], _ => ⟨a0, a1, a2, a3, a4, a5, a6, a7, a8, a9, a10, a11, a12, a13, a14, a15, a16, a17, a18, a19, rfl⟩
theorem wf64 {n : Nat} (h : n < 18446744073709551616) : (Lit.int .u64 (n : Int)).wf = true := by
 simp only [Lit.wf, Bool.and_eq_true, decide_eq_true_eq]
 have e1 : IntKind.u64.min = 0 := by decide
 have e2 : IntKind.u64.max = 18446744073709551615 := by decide
 omega
theorem wf8 {n : Int} (h : 0 ≤ n ∧ n < 256) : (Lit.int .u8 n).wf = true := by
 simp only [Lit.wf, Bool.and_eq_true, decide_eq_true_eq]
 have e1 : IntKind.u8.min = 0 := by decide
 have e2 : IntKind.u8.max = 255 := by decide
 omega
theorem okL_run {k : IntKind} {l : List Leaf} {ws : List Value} : ∀ {vs : List Value}, (∀ v ∈ vs, ∃ n, v = .int k n ∧ (Lit.int k n).wf = true) → okL l ws → okL (List.replicate vs.length (some k) ++ l) (vs ++ ws)
 | [], _, h => h
 | v :: vs, h, h2 => ⟨h v (by simp), okL_run (fun x hx => h x (by simp [hx])) h2⟩
theorem w4_wf (n : Nat) : ∀ v ∈ w4 n, ∃ z, v = .int .u64 z ∧ (Lit.int .u64 z).wf = true := fun v hv => by
 simp only [w4, List.mem_cons, List.not_mem_nil, or_false] at hv
 rcases hv with rfl | rfl | rfl | rfl <;> exact ⟨_, rfl, wf64 (Nat.mod_lt _ (by decide))⟩
theorem u8s_wf {a : List Int} (h : bytesOk a) : ∀ v ∈ u8s a, ∃ z, v = .int .u8 z ∧ (Lit.int .u8 z).wf = true := fun v hv => by
 rw [u8s, List.mem_map] at hv
 obtain ⟨b, hb, rfl⟩ := hv
 exact ⟨b, rfl, wf8 (h b hb)⟩
def Au.cells (u : Au) : List Value := w4 u.ch ++ (u8s u.a ++ (.int .u64 (u.no : Int) :: .int .u64 (u.pa : Int) :: (w4 u.r ++ w4 u.s)))
theorem au_cells2 (u : Au) (h : u.ok) (hb : bytesOk u.a) : ∃ (x0 x1 x2 x3 : Int) (a0 a1 a2 a3 a4 a5 a6 a7 a8 a9 a10 a11 a12 a13 a14 a15 a16 a17 a18 a19 : Int) (c3 c4 : Int) (y0 y1 y2 y3 z0 z1 z2 z3 : Int), u.row = [.r 4 [.int .u64 x0, .int .u64 x1, .int .u64 x2, .int .u64 x3], .r 20 [.int .u8 a0, .int .u8 a1, .int .u8 a2, .int .u8 a3, .int .u8 a4, .int .u8 a5, .int .u8 a6, .int .u8 a7, .int .u8 a8, .int .u8 a9, .int .u8 a10, .int .u8 a11, .int .u8 a12, .int .u8 a13, .int .u8 a14, .int .u8 a15, .int .u8 a16, .int .u8 a17, .int .u8 a18, .int .u8 a19], .c (.v (.int .u64 c3)), .c (.v (.int .u64 c4)), .r 4 [.int .u64 y0, .int .u64 y1, .int .u64 y2, .int .u64 y3], .r 4 [.int .u64 z0, .int .u64 z1, .int .u64 z2, .int .u64 z3]] ∧
  okL [some .u64, some .u64, some .u64, some .u64, some .u8, some .u8, some .u8, some .u8, some .u8, some .u8, some .u8, some .u8, some .u8, some .u8, some .u8, some .u8, some .u8, some .u8, some .u8, some .u8, some .u8, some .u8, some .u8, some .u8, some .u64, some .u64, some .u64, some .u64, some .u64, some .u64, some .u64, some .u64, some .u64, some .u64] [.int .u64 x0, .int .u64 x1, .int .u64 x2, .int .u64 x3, .int .u8 a0, .int .u8 a1, .int .u8 a2, .int .u8 a3, .int .u8 a4, .int .u8 a5, .int .u8 a6, .int .u8 a7, .int .u8 a8, .int .u8 a9, .int .u8 a10, .int .u8 a11, .int .u8 a12, .int .u8 a13, .int .u8 a14, .int .u8 a15, .int .u8 a16, .int .u8 a17, .int .u8 a18, .int .u8 a19, .int .u64 c3, .int .u64 c4, .int .u64 y0, .int .u64 y1, .int .u64 y2, .int .u64 y3, .int .u64 z0, .int .u64 z1, .int .u64 z2, .int .u64 z3] ∧ [.int .u64 x0, .int .u64 x1, .int .u64 x2, .int .u64 x3, .int .u8 a0, .int .u8 a1, .int .u8 a2, .int .u8 a3, .int .u8 a4, .int .u8 a5, .int .u8 a6, .int .u8 a7, .int .u8 a8, .int .u8 a9, .int .u8 a10, .int .u8 a11, .int .u8 a12, .int .u8 a13, .int .u8 a14, .int .u8 a15, .int .u8 a16, .int .u8 a17, .int .u8 a18, .int .u8 a19, .int .u64 c3, .int .u64 c4, .int .u64 y0, .int .u64 y1, .int .u64 y2, .int .u64 y3, .int .u64 z0, .int .u64 z1, .int .u64 z2, .int .u64 z3] = u.cells := by
 obtain ⟨ch, a, no, pa, r, s⟩ := u
 obtain ⟨h1, h20, h3, h4, h5, h6⟩ := h
 have hs : okL (List.replicate (w4 s).length (some .u64) ++ []) (w4 s ++ []) := okL_run (w4_wf s) trivial
 have hr := okL_run (w4_wf r) hs
 have hp : okL (some .u64 :: _) (.int .u64 (pa : Int) :: _) := ⟨⟨_, rfl, wf64 h4⟩, hr⟩
 have hn : okL (some .u64 :: _) (.int .u64 (no : Int) :: _) := ⟨⟨_, rfl, wf64 h3⟩, hp⟩
 have ha := okL_run (u8s_wf hb) hn
 have hc := okL_run (w4_wf ch) ha
 obtain ⟨a0, a1, a2, a3, a4, a5, a6, a7, a8, a9, a10, a11, a12, a13, a14, a15, a16, a17, a18, a19, rfl⟩ := list20 a h20
 exact ⟨_, _, _, _, _, _, _, _, _, _, _, _, _, _, _, _, _, _, _, _, _, _, _, _, _, _, _, _, _, _, _, _, _, _, rfl, hc, rfl⟩
theorem eqVals_append : ∀ {a b c d : List Value}, a.length = c.length → eqVals (a ++ b) (c ++ d) = (eqVals a c && eqVals b d)
 | [], _, [], _, _ => by simp [eqVals]
 | x :: a, b, y :: c, d, h => by
  simp only [List.cons_append, eqVals]
  rw [eqVals_append (by simpa using h), Bool.and_assoc]
 | [], _, _ :: _, _, h => by cases h
 | _ :: _, _, [], _, h => by cases h
theorem eqV4 {n m : Nat} (hn : n < M256) (hm : m < M256) : eqVals (w4 n) (w4 m) = decide (n = m) := by
 obtain ⟨a, b, c, d, ha, hb, hc, hd, rfl⟩ := v4_of n hn
 obtain ⟨a', b', c', d', ha', hb', hc', hd', rfl⟩ := v4_of m hm
 rw [w4_v4 ha hb hc hd, w4_v4 ha' hb' hc' hd']
 have e : (v4 a b c d = v4 a' b' c' d') ↔ (a = a' ∧ b = b' ∧ c = c' ∧ d = d') := by unfold v4; omega
 rw [Bool.eq_iff_iff, decide_eq_true_iff, e]
 simp [eqVals, intEq]
 omega
theorem eqVals_cells {u v : Au} (hu : u.ok) (hv : v.ok) : eqVals u.cells v.cells = true ↔ u = v := by
 obtain ⟨ch, a, no, pa, r, s⟩ := u
 obtain ⟨ch', a', no', pa', r', s'⟩ := v
 obtain ⟨h1, h2, h3, h4, h5, h6⟩ := hu
 obtain ⟨g1, g2, g3, g4, g5, g6⟩ := hv
 simp only [Au.cells]
 simp only at h1 h2 h3 h4 h5 h6 g1 g2 g3 g4 g5 g6
 rw [eqVals_append (show (w4 ch).length = (w4 ch').length from rfl), eqVals_append (by simp [u8s]; rw [h2, g2])]
 simp only [eqVals, intEq]
 rw [eqVals_append (show (w4 r).length = (w4 r').length from rfl), eqV4 h1 g1, eqVals_u8s, eqV4 h5 g5, eqV4 h6 g6]
 simp
 intro _ _
 omega
theorem intsW4 (n : Nat) : ints .u64 (w4 n) := by
 intro w hw
 simp only [w4, List.mem_cons, List.not_mem_nil, or_false] at hw
 rcases hw with rfl | rfl | rfl | rfl <;> exact ⟨_, rfl⟩
structure Tx where
 ty : Int
 ch : Nat
 no : Nat
 pr : Nat
 ti : Nat
 ca : Nat
 ga : Nat
 cr : Bool
 to : List Int
 va : Nat
 d : List Int
 sd : List (List PS)
 ac : List Ent
 sac : List (List PS)
 bc : Nat
 bl : List (List Int)
 sbl : List (List PS)
 au : List Au
 sau : List (List PS)
 v : Nat
 r : Nat
 s : Nat
def b8' (x : Int) : List PS := [.c (.v (.int .u8 x))]
def txRow (ty : Int) (ch no : Int) (pr ti ca : List Value) (ga : Int) (cr : Bool) (to va : List Value) (D sd A sa : List (List PS)) (bc : List Value) (B sb U su : List (List PS)) (v r s : List Value) : List PS :=
 [.c (.v (.int .i64 ty)), .c (.v (.int .u64 ch)), .c (.v (.int .u64 no)), .r 4 pr, .r 4 ti, .r 4 ca, .c (.v (.int .u64 ga)), .c (.v (.bool cr)), .r 20 to, .r 4 va, .c (.sl D sd), .c (.sl A sa), .r 4 bc, .c (.sl B sb), .c (.sl U su), .r 4 v, .r 4 r, .r 4 s]
def Tx.row (t : Tx) : List PS :=
 txRow t.ty t.ch t.no (w4 t.pr) (w4 t.ti) (w4 t.ca) t.ga t.cr (u8s t.to) (w4 t.va) (t.d.map b8') t.sd (t.ac.map Ent.row) t.sac (w4 t.bc) (t.bl.map key) t.sbl (t.au.map Au.row) t.sau (w4 t.v) (w4 t.r) (w4 t.s)
structure Tx.ok (t : Tx) : Prop where
 ty : -9223372036854775808 ≤ t.ty ∧ t.ty ≤ 9223372036854775807
 ch : t.ch < 18446744073709551616
 no : t.no < 18446744073709551616
 pr : t.pr < M256
 ti : t.ti < M256
 ca : t.ca < M256
 ga : t.ga < 18446744073709551616
 to : t.to.length = 20
 va : t.va < M256
 ac : ∀ e ∈ t.ac, e.a.length = 20 ∧ bytesOk e.a ∧ ∀ w ∈ e.ks, w.length = 32 ∧ bytesOk w
 bc : t.bc < M256
 bl : ∀ w ∈ t.bl, w.length = 32 ∧ bytesOk w
 au : ∀ u ∈ t.au, u.ok ∧ bytesOk u.a
 v : t.v < M256
 r : t.r < M256
 s : t.s < M256
 tob : bytesOk t.to
 db : bytesOk t.d
structure Tx.small (t : Tx) : Prop where
 d : t.d.length ≤ 2 ^ 36
 ac : t.ac.length ≤ 2 ^ 36
 ks : ∀ e ∈ t.ac, e.ks.length ≤ 2 ^ 36
 bl : t.bl.length ≤ 2 ^ 36
 au : t.au.length ≤ 2 ^ 36
def Ent.cor (e : Ent) : Ent := ⟨e.a, e.ks, []⟩
def Tx.core (t : Tx) : Tx := { t with sd := [], ac := t.ac.map Ent.cor, sac := [], sbl := [], sau := [] }
end Go.Eng
