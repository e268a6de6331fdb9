/-
  u256.From and u256.Sub: the number; the difference and the borrow. No condition beyond the range of the words.
-/
import Derived.Test.YtaenopgnhncgiaaU0
namespace Go.Eng
open Go Go.Proofs
set_option maxRecDepth 100000
theorem u256From_sound : Sound Try.prog 32 fun args k => ∃ n : Nat, args = [.s (.v (.int .u64 n))] ∧ n < 18446744073709551616 ∧ k [pw n] := by
  refine Sound.of_body tt_ok ent_ok Try.func32 rfl ?_
  rintro ar har Γ hΓ args k ⟨n, rfl, hn, hk⟩
  obtain ⟨z, hz⟩ : ∃ z : Int, z = n := ⟨_, rfl⟩
  have e : w4 n = [.int .u64 z, .int .u64 0, .int .u64 0, .int .u64 0] := by
    have := w4_v4 (a := n) (b := 0) (c := 0) (d := 0) hn (by omega) (by omega) (by omega)
    rw [hz]
    simpa [v4] using this
  rw [← hz]
  unfold pw at hk
  rw [e] at hk
  cbv
  exact hk

theorem sub_step {a b c : Nat} (ha : a < 18446744073709551616) (hb : b < 18446744073709551616) (hc : c ≤ 1) :
    ∃ d e : Nat, extOp 1 [(a : Int), b, c] = d ∧ extOp 2 [(a : Int), b, c] = e ∧ d < 18446744073709551616 ∧ e ≤ 1 ∧ d + b + c = a + 18446744073709551616 * e := by
  refine ⟨_, _, rfl, rfl, ?_, ?_, ?_⟩ <;> simp only [Int.toNat_natCast]
  · omega
  · split <;> omega
  · split <;> omega

theorem sub_fin {D M N c : Nat} (h : D + M = N + M256 * c) (hD : D < M256) (_hN : N < M256) (hc : c ≤ 1) : (N + M256 - M) % M256 = D ∧ (if N < M then 1 else 0) = c := by
  generalize M256 = Q at *
  have : c = 0 ∨ c = 1 := by omega
  rcases this with rfl | rfl
  · rw [Nat.mul_zero, Nat.add_zero] at h
    rw [show N + Q - M = D + Q by omega, Nat.add_mod_right, Nat.mod_eq_of_lt hD]
    exact ⟨rfl, by rw [if_neg (by omega)]⟩
  · rw [Nat.mul_one] at h
    rw [show N + Q - M = D by omega, Nat.mod_eq_of_lt hD]
    exact ⟨rfl, by rw [if_pos (by omega)]⟩

theorem u256Sub_sound : Sound Try.prog 31 fun args k => ∃ n m : Nat, args = [pw n, pw m] ∧ n < M256 ∧ m < M256 ∧ k [pw ((n + M256 - m) % M256), .s (.v (.int .u64 ((if n < m then 1 else 0 : Nat) : Int)))] := by
  refine Sound.of_body tt_ok ent_ok Try.func31 rfl ?_
  rintro ar har Γ hΓ args k ⟨n, m, rfl, hn, hm, hk⟩
  obtain ⟨a0, a1, a2, a3, ha0, ha1, ha2, ha3, rfl⟩ := v4_of n hn
  obtain ⟨b0, b1, b2, b3, hb0, hb1, hb2, hb3, rfl⟩ := v4_of m hm
  unfold pw
  rw [w4_v4 ha0 ha1 ha2 ha3, w4_v4 hb0 hb1 hb2 hb3]
  obtain ⟨x0, hx0⟩ : ∃ z : Int, z = a0 := ⟨_, rfl⟩
  obtain ⟨x1, hx1⟩ : ∃ z : Int, z = a1 := ⟨_, rfl⟩
  obtain ⟨x2, hx2⟩ : ∃ z : Int, z = a2 := ⟨_, rfl⟩
  obtain ⟨x3, hx3⟩ : ∃ z : Int, z = a3 := ⟨_, rfl⟩
  obtain ⟨y0, hy0⟩ : ∃ z : Int, z = b0 := ⟨_, rfl⟩
  obtain ⟨y1, hy1⟩ : ∃ z : Int, z = b1 := ⟨_, rfl⟩
  obtain ⟨y2, hy2⟩ : ∃ z : Int, z = b2 := ⟨_, rfl⟩
  obtain ⟨y3, hy3⟩ : ∃ z : Int, z = b3 := ⟨_, rfl⟩
  rw [← hx0, ← hx1, ← hx2, ← hx3, ← hy0, ← hy1, ← hy2, ← hy3]
  obtain ⟨d0, c1, e0, f0, g0, h0, q0⟩ := sub_step ha0 hb0 (Nat.zero_le 1)
  obtain ⟨d1, c2, e1, f1, g1, h1, q1⟩ := sub_step ha1 hb1 h0
  obtain ⟨d2, c3, e2, f2, g2, h2, q2⟩ := sub_step ha2 hb2 h1
  obtain ⟨d3, c4, e3, f3, g3, h3, q3⟩ := sub_step ha3 hb3 h2
  have s0 : ar.xop 1 [x0, y0, 0] = d0 := by rw [har, hx0, hy0]; exact e0
  have t0 : ar.xop 2 [x0, y0, 0] = c1 := by rw [har, hx0, hy0]; exact f0
  have s1 : ar.xop 1 [x1, y1, ar.xop 2 [x0, y0, 0]] = d1 := by rw [t0, har, hx1, hy1]; exact e1
  have t1 : ar.xop 2 [x1, y1, ar.xop 2 [x0, y0, 0]] = c2 := by rw [t0, har, hx1, hy1]; exact f1
  have s2 : ar.xop 1 [x2, y2, ar.xop 2 [x1, y1, ar.xop 2 [x0, y0, 0]]] = d2 := by rw [t1, har, hx2, hy2]; exact e2
  have t2 : ar.xop 2 [x2, y2, ar.xop 2 [x1, y1, ar.xop 2 [x0, y0, 0]]] = c3 := by rw [t1, har, hx2, hy2]; exact f2
  have s3 : ar.xop 1 [x3, y3, ar.xop 2 [x2, y2, ar.xop 2 [x1, y1, ar.xop 2 [x0, y0, 0]]]] = d3 := by rw [t2, har, hx3, hy3]; exact e3
  have t3 : ar.xop 2 [x3, y3, ar.xop 2 [x2, y2, ar.xop 2 [x1, y1, ar.xop 2 [x0, y0, 0]]]] = c4 := by rw [t2, har, hx3, hy3]; exact f3
  have key : v4 d0 d1 d2 d3 + v4 b0 b1 b2 b3 = v4 a0 a1 a2 a3 + M256 * c4 := by unfold v4 M256; omega
  have hlt : v4 d0 d1 d2 d3 < M256 := by unfold v4 M256; omega
  have hfin := sub_fin key hlt hn h3
  have hval := hfin.1
  have hbor := hfin.2
  unfold pw at hk
  rw [hval, hbor, w4_v4 g0 g1 g2 g3] at hk
  have hk2 : k [PR.a [.r 4 [.int .u64 (ar.xop 1 [x0, y0, 0]), .int .u64 (ar.xop 1 [x1, y1, ar.xop 2 [x0, y0, 0]]), .int .u64 (ar.xop 1 [x2, y2, ar.xop 2 [x1, y1, ar.xop 2 [x0, y0, 0]]]),
      .int .u64 (ar.xop 1 [x3, y3, ar.xop 2 [x2, y2, ar.xop 2 [x1, y1, ar.xop 2 [x0, y0, 0]]]])]], .s (.v (.int .u64 (ar.xop 2 [x3, y3, ar.xop 2 [x2, y2, ar.xop 2 [x1, y1, ar.xop 2 [x0, y0, 0]]]])))] := by
    rw [s0, s1, s2, s3, t3]; exact hk
  have b1 : 0 ≤ ar.xop 2 [x0, y0, 0] ∧ ar.xop 2 [x0, y0, 0] ≤ 1 := by rw [t0]; omega
  have b2 : 0 ≤ ar.xop 2 [x1, y1, ar.xop 2 [x0, y0, 0]] ∧ ar.xop 2 [x1, y1, ar.xop 2 [x0, y0, 0]] ≤ 1 := by rw [t1]; omega
  have b3 : 0 ≤ ar.xop 2 [x2, y2, ar.xop 2 [x1, y1, ar.xop 2 [x0, y0, 0]]] ∧ ar.xop 2 [x2, y2, ar.xop 2 [x1, y1, ar.xop 2 [x0, y0, 0]]] ≤ 1 := by rw [t2]; omega
  clear hk s0 s1 s2 s3 t0 t1 t2 t3 hval hbor
  cbv
  refine .inl ⟨5, ?_⟩
  cbv
  exact ⟨by rw [har]; kernel_rfl, fun _ => ⟨by omega, by omega⟩, by rw [har]; kernel_rfl, fun _ => b1, by rw [har]; kernel_rfl, fun _ => b2, by rw [har]; kernel_rfl, fun _ => b3, hk2⟩
end Go.Eng
