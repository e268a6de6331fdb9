/-
  What the evaluator's reckoning is, in words of numbers: comparisons, and arithmetic that stays in its kind's range. No program in sight.
-/
import Derived.Test.YtgihmigiecfmaaaEngJ
namespace Go.Eng
open Go

/-- A test that is decided: the first way, the second way. (No tactic need open the goal.) -/
theorem onT {b : Bool} {A B : Prop} (h : b = true) (hA : A) : (b = true → A) ∧ (b = false → B) := ⟨fun _ => hA, fun h' => (by rw [h] at h'; cases h')⟩
theorem onF {b : Bool} {A B : Prop} (h : b = false) (hB : B) : (b = true → A) ∧ (b = false → B) := ⟨fun h' => (by rw [h] at h'; cases h'), fun _ => hB⟩
theorem gonT {b : Bool} {A B : Prop} (h : b = false) (hA : A) : (b = false → A) ∧ (b = true → B) := ⟨fun _ => hA, fun h' => (by rw [h] at h'; cases h')⟩
theorem gonF {b : Bool} {A B : Prop} (h : b = true) (hB : B) : (b = false → A) ∧ (b = true → B) := ⟨fun h' => (by rw [h] at h'; cases h'), fun _ => hB⟩

section
variable {ar : Ar}

theorem tEq (har : ar = arS) (a : Int) : ar.cb .eql a a = true := by rw [har]; simp [arS, intC]
theorem tBb (har : ar = arS) (a : Bool) : ar.bb .eql a a = true := by rw [har]; simp [arS]
theorem tcb (har : ar = arS) {op : BinOp} {a b : Int} {r : Bool} (h : intC op a b = r) : ar.cb op a b = r := by rw [har]; exact h
theorem dLt (har : ar = arS) {a b : Int} (h : a < b) : ar.cb .lss a b = true := by rw [har]; simpa [arS, intC] using h
theorem dNlt (har : ar = arS) {a b : Int} (h : b ≤ a) : ar.cb .lss a b = false := by rw [har]; simp [arS, intC]; omega
theorem dGt (har : ar = arS) {a b : Int} (h : b < a) : ar.cb .gtr a b = true := by rw [har]; simpa [arS, intC] using h
theorem dNgt (har : ar = arS) {a b : Int} (h : a ≤ b) : ar.cb .gtr a b = false := by rw [har]; simp [arS, intC]; omega
theorem dEq (har : ar = arS) {a b : Int} (h : a = b) : ar.cb .eql a b = true := by rw [har]; simpa [arS, intC] using h
theorem dNeq (har : ar = arS) {a b : Int} (h : a ≠ b) : ar.cb .eql a b = false := by rw [har]; simpa [arS, intC] using h
theorem dNe (har : ar = arS) {a b : Int} (h : a ≠ b) : ar.cb .neq a b = true := by rw [har]; simpa [arS, intC] using h
theorem dNne (har : ar = arS) {a b : Int} (h : a = b) : ar.cb .neq a b = false := by rw [har]; simpa [arS, intC] using h

theorem cLt (har : ar = arS) {a b : Int} (h : ar.cb .lss a b = true) : a < b := by rw [har] at h; simpa [arS, intC] using h
theorem cNlt (har : ar = arS) {a b : Int} (h : ar.cb .lss a b = false) : b ≤ a := by rw [har] at h; simp [arS, intC] at h; omega
theorem cLe (har : ar = arS) {a b : Int} (h : ar.cb .leq a b = true) : a ≤ b := by rw [har] at h; simpa [arS, intC] using h
theorem cNle (har : ar = arS) {a b : Int} (h : ar.cb .leq a b = false) : b < a := by rw [har] at h; simp [arS, intC] at h; omega
theorem cGt (har : ar = arS) {a b : Int} (h : ar.cb .gtr a b = true) : b < a := by rw [har] at h; simpa [arS, intC] using h
theorem cNgt (har : ar = arS) {a b : Int} (h : ar.cb .gtr a b = false) : a ≤ b := by rw [har] at h; simp [arS, intC] at h; omega
theorem cGe (har : ar = arS) {a b : Int} (h : ar.cb .geq a b = true) : b ≤ a := by rw [har] at h; simpa [arS, intC] using h
theorem cNge (har : ar = arS) {a b : Int} (h : ar.cb .geq a b = false) : a < b := by rw [har] at h; simp [arS, intC] at h; omega
theorem cEq (har : ar = arS) {a b : Int} (h : ar.cb .eql a b = true) : a = b := by rw [har] at h; simpa [arS, intC] using h
theorem cNeq (har : ar = arS) {a b : Int} (h : ar.cb .eql a b = false) : a ≠ b := by rw [har] at h; simpa [arS, intC] using h
theorem cNe (har : ar = arS) {a b : Int} (h : ar.cb .neq a b = true) : a ≠ b := by rw [har] at h; simpa [arS, intC] using h
theorem cNne (har : ar = arS) {a b : Int} (h : ar.cb .neq a b = false) : a = b := by rw [har] at h; simpa [arS, intC] using h
theorem nbT (har : ar = arS) {b : Bool} (h : ar.nb b = true) : b = false := by rw [har] at h; simpa [arS] using h
theorem nbF (har : ar = arS) {b : Bool} (h : ar.nb b = false) : b = true := by rw [har] at h; simpa [arS] using h
theorem cIs (har : ar = arS) (op : BinOp) (a b : Int) : ar.cb op a b = intC op a b := by rw [har]; rfl
theorem iIs (har : ar = arS) (op : BinOp) (k : IntKind) (a b : Int) : ar.ib op k a b = intB op k a b := by rw [har]; rfl
theorem cvIs (har : ar = arS) (k : IntKind) (a : Int) : ar.cv k a = k.wrap a := by rw [har]; rfl
theorem lenIs (har : ar = arS) (xs : List (List PS)) : ar.len xs = (xs.length : Int) := by rw [har]; rfl
theorem natIs (har : ar = arS) (a : Int) : ar.nat a = a.toNat := by rw [har]; rfl
theorem natOf (har : ar = arS) {a : Int} {p : Nat} (h : a = (p : Int)) : ar.nat a = p := by rw [har, h]; exact Int.toNat_natCast p
theorem eqvIs (har : ar = arS) (a b : List Value) : ar.eqv a b = eqVals a b := by rw [har]; rfl
theorem setIs (har : ar = arS) (l : List Value) (i : Nat) (v : Value) : ar.set l i v = l.set i v := by rw [har]; rfl
theorem appIs (har : ar = arS) (a b : List (List PS)) : ar.app a b = a ++ b := by rw [har]; rfl
theorem setxIs (har : ar = arS) (a : List (List PS)) (i : Nat) (x : List PS) : ar.setx a i x = a.set i x := by rw [har]; rfl
theorem repIs (har : ar = arS) (n : Nat) (x : List PS) : ar.rep n x = List.replicate n x := by rw [har]; rfl
theorem midIs (har : ar = arS) (xs : List (List PS)) (lo hi : Nat) : ar.mid xs lo hi = (xs.take hi).drop lo := by rw [har]; rfl
theorem frmIs (har : ar = arS) (xs : List (List PS)) (n : Nat) : ar.frm xs n = xs.drop n := by rw [har]; rfl
theorem cpyIs (har : ar = arS) (xs ys : List (List PS)) : ar.cpy xs ys = ys.take xs.length ++ xs.drop ys.length := by rw [har]; rfl
theorem cellsIs (har : ar = arS) (ws : List Value) : ar.cells ws = ws.map cell1 := by rw [har]; rfl
theorem partIs (har : ar = arS) (ws : List Value) (o n : Nat) : ar.part ws o n = (ws.drop o).take n := by rw [har]; rfl
theorem bbIs (har : ar = arS) (a b : Bool) : ar.bb .eql a b = (a == b) := by rw [har]; rfl
theorem bbnIs (har : ar = arS) (a b : Bool) : ar.bb .neq a b = !(a == b) := by rw [har]; rfl
theorem muxIs (har : ar = arS) (c a b : Bool) : ar.mux c a b = bif c then a else b := by rw [har]; rfl
theorem minIs (har : ar = arS) (a b : Int) : ar.min a b = if a ≤ b then a else b := by rw [har]; rfl
theorem eqiIs (har : ar = arS) (a b : Int) : ar.eqi a b = (a == b) := by rw [har]; rfl
theorem andIs (har : ar = arS) (a b : Bool) : ar.and a b = (a && b) := by rw [har]; rfl

theorem i64Wrap (n : Int) : IntKind.i64.wrap n = (n + 9223372036854775808) % 18446744073709551616 - 9223372036854775808 := by
  have e : IntKind.i64.wrap n = if n % 18446744073709551616 ≥ 9223372036854775808 then n % 18446744073709551616 - 18446744073709551616 else n % 18446744073709551616 := by
    simp [IntKind.wrap, IntKind.bits, IntKind.signed]
  rw [e]; split <;> omega
theorem i64Id {n : Int} (h : -9223372036854775808 ≤ n ∧ n ≤ 9223372036854775807) : IntKind.i64.wrap n = n := by
  rw [i64Wrap]; omega
theorem u64Wrap (n : Int) : IntKind.u64.wrap n = n % 18446744073709551616 := by
  simp [IntKind.wrap, IntKind.bits, IntKind.signed]
theorem u8Wrap (n : Int) : IntKind.u8.wrap n = n % 256 := by
  simp [IntKind.wrap, IntKind.bits, IntKind.signed]
theorem u32Wrap (n : Int) : IntKind.u32.wrap n = n % 4294967296 := by
  simp [IntKind.wrap, IntKind.bits, IntKind.signed]

theorem iAdd (har : ar = arS) {a b : Int} (h : -9223372036854775808 ≤ a + b ∧ a + b ≤ 9223372036854775807) : ar.ib .add .i64 a b = a + b := by rw [har]; exact i64Id h
theorem iSub (har : ar = arS) {a b : Int} (h : -9223372036854775808 ≤ a - b ∧ a - b ≤ 9223372036854775807) : ar.ib .sub .i64 a b = a - b := by rw [har]; exact i64Id h
theorem iMul (har : ar = arS) {a b : Int} (h : -9223372036854775808 ≤ a * b ∧ a * b ≤ 9223372036854775807) : ar.ib .mul .i64 a b = a * b := by rw [har]; exact i64Id h
theorem iQuo (har : ar = arS) {a b : Nat} (h : (a : Int) ≤ 9223372036854775807) : ar.ib .quo .i64 (a : Int) (b : Int) = ((a / b : Nat) : Int) := by
  rw [har]
  show IntKind.i64.wrap ((a : Int).tdiv b) = _
  rw [← Int.ofNat_tdiv]
  have := Nat.div_le_self a b
  generalize a / b = q at *
  exact i64Id (by omega)
theorem iRem (har : ar = arS) {a b : Nat} {k : IntKind} : ar.ib .rem k (a : Int) (b : Int) = ((a % b : Nat) : Int) := by
  rw [har]
  show (a : Int).tmod b = _
  exact (Int.ofNat_tmod a b).symm
/-- One more. -/
theorem iSucc (har : ar = arS) {i : Int} {p : Nat} (h : i = (p : Int)) (hp : p < 9223372036854775807) : ar.ib .add .i64 i 1 = ((p + 1 : Nat) : Int) := by
  rw [iAdd har (by omega), h]; omega
theorem uAdd (har : ar = arS) {a b : Nat} (h : a + b < 18446744073709551616) : ar.ib .add .u64 (a : Int) (b : Int) = ((a + b : Nat) : Int) := by
  rw [har]; show IntKind.u64.wrap _ = _; rw [u64Wrap]; omega
theorem uSub (har : ar = arS) {a b : Nat} (h : b ≤ a) (ha : a < 18446744073709551616) : ar.ib .sub .u64 (a : Int) (b : Int) = ((a - b : Nat) : Int) := by
  rw [har]; show IntKind.u64.wrap _ = _; rw [u64Wrap]; omega
theorem cvI64 (har : ar = arS) {a : Int} (h : -9223372036854775808 ≤ a ∧ a ≤ 9223372036854775807) : ar.cv .i64 a = a := by rw [har]; exact i64Id h
theorem cvU64 (har : ar = arS) {a : Int} (h : 0 ≤ a ∧ a < 18446744073709551616) : ar.cv .u64 a = a := by rw [har]; show IntKind.u64.wrap _ = _; rw [u64Wrap]; omega
theorem cvU8 (har : ar = arS) {a : Int} : ar.cv .u8 a = a % 256 := by rw [har]; exact u8Wrap a
end
end Go.Eng
