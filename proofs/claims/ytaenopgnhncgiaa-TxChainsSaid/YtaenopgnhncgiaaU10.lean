/-
  The reference's Shl and Shr (moved bit by bit), at whatever number of places. No condition beyond the range -255 .. 255.
-/
import Derived.Test.YtaenopgnhncgiaaU9
namespace Go.Eng
open Go Go.Proofs
set_option maxRecDepth 100000

/-- The number moved up by s places (down, where s is below 0). -/
def shlN (n : Nat) (s : Int) : Nat := if 0 ≤ s then n * 2 ^ s.toNat % 2 ^ 256 else n / 2 ^ (-s).toNat

theorem shlN_bit {n : Nat} (hn : n < 2 ^ 256) {s : Int} (hs : -255 ≤ s ∧ s ≤ 255) {p : Nat} (hp : p < 256) : bitN n ((p : Int) - s) = ((shlN n s).testBit p).toNat := by
  have e : ∀ m q : Nat, m / 2 ^ q % 2 = (m.testBit q).toNat := fun m q => by
    rw [Nat.testBit_eq_decide_div_mod_eq]
    have : m / 2 ^ q % 2 = 0 ∨ m / 2 ^ q % 2 = 1 := by omega
    rcases this with h | h <;> simp [h]
  unfold bitN shlN
  by_cases h0 : 0 ≤ s
  · rw [if_pos h0]
    obtain ⟨t, ht⟩ : ∃ t : Nat, s = t := ⟨s.toNat, by omega⟩
    subst ht
    rw [Int.toNat_natCast, Nat.testBit_mod_two_pow, decide_eq_true hp, Bool.true_and, ← Nat.shiftLeft_eq, Nat.testBit_shiftLeft]
    by_cases hc : t ≤ p
    · rw [if_pos (by omega), e, decide_eq_true (show p ≥ t from hc), Bool.true_and, show ((p : Int) - t).toNat = p - t by omega]
    · rw [if_neg (by omega), decide_eq_false (by omega)]; rfl
  · rw [if_neg h0]
    obtain ⟨t, ht⟩ : ∃ t : Nat, s = -(t : Int) := ⟨(-s).toNat, by omega⟩
    subst ht
    rw [show (- -(t : Int)).toNat = t by omega, Nat.testBit_div_two_pow]
    by_cases hc : p + t ≤ 255
    · rw [if_pos (by omega), e, show ((p : Int) - -(t : Int)).toNat = p + t by omega]
    · rw [if_neg (by omega), Nat.testBit_lt_two_pow (Nat.lt_of_lt_of_le hn (Nat.pow_le_pow_right (by omega) (by omega)))]; rfl

theorem mod_succ_bit (m p : Nat) : m % 2 ^ (p + 1) = if m.testBit p then (m % 2 ^ p) ||| 2 ^ p else m % 2 ^ p := by
  refine Nat.eq_of_testBit_eq fun q => ?_
  split
  · rename_i h
    rw [Nat.testBit_or, Nat.testBit_mod_two_pow, Nat.testBit_mod_two_pow, Nat.testBit_two_pow]
    by_cases e : p = q
    · subst e; simp [h]
    · simp only [decide_eq_false e, Bool.or_false]; congr 1; rw [decide_eq_decide]; omega
  · rename_i h
    rw [Nat.testBit_mod_two_pow, Nat.testBit_mod_two_pow]
    by_cases e : p = q
    · subst e; simp [h]
    · congr 1; rw [decide_eq_decide]; omega

theorem shlN_lt {n : Nat} (hn : n < 2 ^ 256) (s : Int) : shlN n s < 2 ^ 256 := by
  unfold shlN; split
  · exact Nat.mod_lt _ (by omega)
  · exact Nat.lt_of_le_of_lt (Nat.div_le_self _ _) hn

theorem refShl_sound : Sound Try.prog 58 fun args k => ∃ (n : Nat) (s : Int), args = [pw n, .s (.v (.int .i64 s))] ∧ n < 2 ^ 256 ∧ -255 ≤ s ∧ s ≤ 255 ∧ k [pw (shlN n s)] := by
  refine Sound.of_body tt_ok ent_ok Try.func58 rfl ?_
  rintro ar har Γ hΓ args k ⟨n, s, rfl, hn, hlo, hhi, hk⟩
  obtain ⟨x, hx⟩ : ∃ x, x = w4 n := ⟨_, rfl⟩
  unfold pw at hk ⊢
  rw [← hx]
  cbv
  refine ⟨fun h1 => ?_, fun h1 => absurd (cLt har h1) (by omega)⟩
  cbv
  refine ⟨fun h2 => absurd (cGt har h2) (by omega), fun h2 => ?_⟩
  cbv
  refine .inr ⟨{ q : Nat × Int × List Value // q.1 ≤ 256 ∧ q.2.1 = q.1 ∧ q.2.2 = w4 (shlN n s % 2 ^ q.1) },
    fun q => ⟨mk 28 [(1, pint s), (2, .s (.ptr 0 0)), (4, .s (.ptr 1 0)), (5, .s (.ptr 2 0)), (6, pint q.1.2.1)], [.box [.r 4 x], .box [.r 4 [.int .u64 0, .int .u64 0, .int .u64 0, .int .u64 0]], .box [.r 4 q.1.2.2]]⟩,
    fun q => 256 - q.1.1, [], _, ⟨(0, 0, [.int .u64 0, .int .u64 0, .int .u64 0, .int .u64 0]), Nat.zero_le _, rfl, by show _ = w4 (shlN n s % 1); rw [Nat.mod_one]; rfl⟩, rfl, ?_, ?_⟩
  · cbv
  · rintro ⟨⟨p, pi, Y⟩, hq⟩
    have hp : p ≤ 256 := hq.1
    have hpi : pi = (p : Int) := hq.2.1
    have hY : Y = w4 (shlN n s % 2 ^ p) := hq.2.2
    dsimp only
    cbv
    refine ⟨fun h3 => ?_, fun h3 => ?_⟩
    · have hpi : pi = (p : Int) := hpi
      have hlt : p < 256 := by have := cLt har h3; omega
      have hd : ar.ib .sub .i64 pi s = (p : Int) - s := by rw [iSub har (by omega), hpi]
      have hsb := shlN_bit hn ⟨hlo, hhi⟩ hlt
      have hms := mod_succ_bit (shlN n s) p
      obtain ⟨d, hd'⟩ : ∃ d : Int, d = ar.ib .sub .i64 pi s := ⟨_, rfl⟩
      obtain ⟨t, ht⟩ : ∃ t : Bool, t = (shlN n s).testBit p := ⟨_, rfl⟩
      have hbit : bitN n (ar.ib .sub .i64 pi s) = t.toNat := by rw [hd, hsb, ht]
      rw [← ht] at hms
      have hr1 : -1000 ≤ ar.ib .sub .i64 pi s := by rw [hd]; omega
      have hr2 : ar.ib .sub .i64 pi s ≤ 1000 := by rw [hd]; omega
      cbv
      refine call_by hΓ refBit_sound ⟨n, ar.ib .sub .i64 pi s, by rw [hx], hr1, hr2, ?_⟩
      have e1 : ((bitN n (ar.ib .sub .i64 pi s) : Nat) : Int) = (t.toNat : Int) := by rw [hbit]
      rw [e1]
      obtain ⟨b, hb⟩ : ∃ b : Int, b = (t.toNat : Int) := ⟨_, rfl⟩
      rw [← hb]
      cbv
      refine ⟨fun h4 => ?_, fun h4 => ?_⟩
      · have g4 := cEq har h4
        have t1 : t = true := by cases t with | true => rfl | false => rw [hb] at g4; cases g4
        rw [t1] at hms
        cbv
        have hpi : pi = (p : Int) := hpi
        refine call_by hΓ refWith_sound ⟨shlN n s % 2 ^ p, p, by rw [hY, hpi], hlt, ?_⟩
        obtain ⟨Z, hZ⟩ : ∃ Z, Z = w4 (shlN n s % 2 ^ p ||| 2 ^ p) := ⟨_, rfl⟩
        unfold pw
        rw [← hZ]
        cbv
        refine ⟨⟨(p + 1, ar.ib .add .i64 pi 1, Z), hlt, iSucc har hpi (by omega), by show Z = w4 (shlN n s % 2 ^ (p + 1)); rw [hms, hZ]; rfl⟩, ?_, ?_⟩
        · dsimp only
          cbv
        · show 256 - (p + 1) < 256 - p
          omega
      · have g4 := cNeq har h4
        have t1 : t = false := by cases t with | false => rfl | true => rw [hb] at g4; exact absurd rfl g4
        rw [t1] at hms
        cbv
        have hpi : pi = (p : Int) := hpi
        refine ⟨⟨(p + 1, ar.ib .add .i64 pi 1, Y), hlt, iSucc har hpi (by omega), by show Y = w4 (shlN n s % 2 ^ (p + 1)); rw [hms, hY]; rfl⟩, ?_, ?_⟩
        · dsimp only
          cbv
        · show 256 - (p + 1) < 256 - p
          omega
    · have hpi : pi = (p : Int) := hpi
      have hge : p = 256 := by have := cNlt har h3; omega
      rw [hge, Nat.mod_eq_of_lt (shlN_lt hn s)] at hY
      rw [← hY] at hk
      cbv
      exact hk

theorem refShr1_sound : Sound Try.prog 37 fun args k => ∃ n : Nat, args = [pw n, .s (.v (.int .i64 1))] ∧ n < 2 ^ 256 ∧ k [pw (n / 2)] := by
  obtain ⟨bs, hbs⟩ : ∃ bs : List Bool, bs = [false, true] := ⟨_, rfl⟩
  refine Sound.of_bodyL bs 0 tt_ok ent_ok Try.func37 rfl ?_
  rintro ar har Γ hΓ args k ⟨n, rfl, hn, hk⟩
  obtain ⟨x, hx⟩ : ∃ x, x = w4 n := ⟨_, rfl⟩
  have e : shlN n (-1) = n / 2 := by unfold shlN; rw [if_neg (by omega)]; rfl
  obtain ⟨y, hy⟩ : ∃ y, y = w4 (n / 2) := ⟨_, rfl⟩
  unfold pw at hk ⊢
  rw [← hx]
  rw [← hy] at hk
  subst hbs
  cbv
  refine call_by hΓ refShl_sound ⟨n, -1, by rw [hx], hn, by omega, by omega, ?_⟩
  unfold pw
  rw [e, ← hy]
  cbv
  exact hk
end Go.Eng
