/-
  Items as plain data: a tree of texts and lists; what stands in the room behind each text and list. No program in sight.
  rlp: clone, Text, odd, kind. Conditions: sizes up to 2^40.
  bits.Len64 tells how many bits a word has. No condition.
  u256.Len, Put, Bytes: how many bits; the 32 bytes; the bytes without zeros ahead. No condition.
  u256.Bytes tells the bytes without zeros ahead; rlp.head. No condition beyond the kinds' ranges.
  rlp.size: how many bytes an item takes. Condition: at most 2^40 nodes and bytes.
  rlp.sound, Check, Size; access.fitting. Condition: at most 2^40 nodes and bytes.
  rlp.twin, List: items in new memory; a list as an item. Condition: at most 2^40 nodes and bytes.
  rlp.GetList, GetFixed. Conditions: at most 2^40 nodes and bytes.
  access.Item: the item of an access list. Condition: sizes up to 2^40.
-/
import Derived.Test.YtgihmigiecfmaaaUA
namespace Go.Eng
open Go Go.Proofs
set_option linter.unusedVariables false

/-- A byte in a slice. -/
def b8 (x : Int) : List PS := [.c (.v (.int .u8 x))]
theorem b8_len (x : Int) : rlen (b8 x) = 1 := rfl

inductive It where
  | mk (l : Bool) (d : List Int) (sd : List (List PS)) (its : List It) (ss : List (List PS))

mutual
def It.row : It → List PS
  | .mk l d sd its ss => [.c (.v (.bool l)), .c (.sl (d.map b8) sd), .c (.sl (rowsOf its) ss)]
def rowsOf : List It → List (List PS)
  | [] => []
  | x :: xs => x.row :: rowsOf xs
end

theorem rowsOf_map : ∀ its : List It, rowsOf its = its.map It.row
  | [] => rfl
  | x :: xs => by rw [rowsOf, List.map_cons, rowsOf_map xs]
theorem rowsOf_get {its : List It} {p : Nat} {x : It} (h : its[p]? = some x) : (rowsOf its)[p]? = some x.row := by
  rw [rowsOf_map, List.getElem?_map, h]; rfl
theorem rowsOf_length (its : List It) : (rowsOf its).length = its.length := by rw [rowsOf_map, List.length_map]
theorem It.row_len : ∀ x : It, rlen x.row = 3
  | .mk _ _ _ _ _ => by simp [It.row, rlen, PS.len]

def It.l : It → Bool | .mk l _ _ _ _ => l
def It.d : It → List Int | .mk _ d _ _ _ => d
def It.its : It → List It | .mk _ _ _ its _ => its

mutual
/-- Without what stands in the room behind. -/
def It.strip : It → It
  | .mk l d _ its _ => .mk l d [] (strips its) []
def strips : List It → List It
  | [] => []
  | x :: xs => x.strip :: strips xs
end
mutual
/-- How many nodes and bytes. -/
def It.bulk : It → Nat
  | .mk _ d _ its _ => 1 + d.length + bulks its
def bulks : List It → Nat
  | [] => 0
  | x :: xs => x.bulk + bulks xs
end

theorem strips_map : ∀ its : List It, strips its = its.map It.strip
  | [] => rfl
  | x :: xs => by rw [strips, List.map_cons, strips_map xs]
theorem bulk_pos : ∀ x : It, 1 ≤ x.bulk
  | .mk _ _ _ _ _ => by simp only [It.bulk]; omega
theorem bulks_len : ∀ its : List It, its.length ≤ bulks its
  | [] => Nat.le_refl _
  | x :: xs => by have := bulks_len xs; have := bulk_pos x; simp only [List.length_cons, bulks]; omega
theorem bulk_mem {x : It} : ∀ {its : List It}, x ∈ its → x.bulk ≤ bulks its
  | y :: ys, h => by
    simp only [bulks]
    rcases List.mem_cons.1 h with rfl | h
    · omega
    · have := bulk_mem h; omega
theorem bulk_get {x : It} {its : List It} {p : Nat} (h : its[p]? = some x) : x.bulk ≤ bulks its := bulk_mem (List.mem_of_getElem? h)
theorem bulks_append (a b : List It) : bulks (a ++ b) = bulks a + bulks b := by
  induction a with
  | nil => simp [bulks]
  | cons x a ih => simp only [List.cons_append, bulks, ih]; omega
theorem strips_append (a b : List It) : strips (a ++ b) = strips a ++ strips b := by
  rw [strips_map, strips_map, strips_map, List.map_append]
theorem rowsOf_append (a b : List It) : rowsOf (a ++ b) = rowsOf a ++ rowsOf b := by
  rw [rowsOf_map, rowsOf_map, rowsOf_map, List.map_append]

def It.txt (d : List Int) : It := .mk false d [] [] []
def It.lst (its : List It) : It := .mk true [] [] its []

theorem take_succ_get {α : Type} {l : List α} {p : Nat} {x : α} (h : l[p]? = some x) : l.take (p + 1) = l.take p ++ [x] := by rw [List.take_add_one, h]; rfl

end Go.Eng
namespace Go.Eng
open Go Go.Proofs
set_option maxRecDepth 100000
set_option maxHeartbeats 2000000
set_option linter.unusedVariables false

theorem b8_all (d : List Int) : ∀ y ∈ d.map b8, rlen y = 1 := fun y hy => by
  rw [List.mem_map] at hy; obtain ⟨x, _, rfl⟩ := hy; rfl

theorem clone_sound : Sound Try.prog 41 fun args k => ∃ (d : List Int) (sd : List (List PS)), args = [.s (.sl (d.map b8) sd)] ∧ d.length ≤ 2 ^ 40 ∧ k [.s (.sl (d.map b8) [])] := by
  refine Sound.of_body tt_ok ent_ok Try.func41 rfl ?_
  rintro ar har Γ hΓ args k ⟨d, sd, rfl, hl, hk⟩
  obtain ⟨D, hD⟩ : ∃ D, D = d.map b8 := ⟨_, rfl⟩
  have hD1 : ∀ y ∈ D, rlen y = 1 := by rw [hD]; exact b8_all d
  have hD2 : D.length = d.length := by rw [hD, List.length_map]
  have hap : ar.app [] D = D := by rw [appIs har]; rfl
  rw [← hD] at hk ⊢
  rw [← hap] at hk
  conv => cbv
  refine ⟨fun _ => ⟨?_, hD1⟩, hk⟩
  show (0 + D.length) * 1 ≤ 140737488355328
  omega

theorem text_sound : Sound Try.prog 25 fun args k => ∃ (d : List Int) (sd : List (List PS)), args = [.s (.sl (d.map b8) sd)] ∧ d.length ≤ 2 ^ 40 ∧ k [.a (It.txt d).row] := by
  refine Sound.of_body tt_ok ent_ok Try.func25 rfl ?_
  rintro ar har Γ hΓ args k ⟨d, sd, rfl, hl, hk⟩
  obtain ⟨D, hD⟩ : ∃ D, D = d.map b8 := ⟨_, rfl⟩
  have hr : (It.txt d).row = [.c (.v (.bool false)), .c (.sl D []), .c (.sl [] [])] := by simp [It.txt, It.row, rowsOf, hD]
  rw [hr] at hk
  rw [← hD]
  conv => cbv
  refine call_by hΓ clone_sound ⟨d, sd, by rw [hD], hl, ?_⟩
  rw [← hD]
  conv => cbv
  exact hk

/-- A text with items, or a list with a text. -/
def It.odd : It → Bool
  | .mk l d _ its _ => if l then decide (0 < d.length) else decide (0 < its.length)

theorem odd_sound : Sound Try.prog 63 fun args k => ∃ it : It, args = [.a it.row] ∧ k [.s (.v (.bool it.odd))] := by
  refine Sound.of_body tt_ok ent_ok Try.func63 rfl ?_
  rintro ar har Γ hΓ args k ⟨⟨l, d, sd, its, ss⟩, rfl, hk⟩
  obtain ⟨D, hD⟩ : ∃ D, D = d.map b8 := ⟨_, rfl⟩
  obtain ⟨I, hI⟩ : ∃ I, I = rowsOf its := ⟨_, rfl⟩
  have hDl : ar.len D = (d.length : Int) := by rw [lenIs har, hD, List.length_map]
  have hIl : ar.len I = (its.length : Int) := by rw [lenIs har, hI, rowsOf_length]
  have e1 : ar.cb .gtr (ar.len D) 0 = decide (0 < d.length) := by rw [hDl, cIs har]; show decide _ = decide _; rw [decide_eq_decide]; omega
  have e2 : ar.cb .gtr (ar.len I) 0 = decide (0 < its.length) := by rw [hIl, cIs har]; show decide _ = decide _; rw [decide_eq_decide]; omega
  unfold It.row
  rw [show (It.mk l d sd its ss).odd = if l then decide (0 < d.length) else decide (0 < its.length) from rfl, ← e1, ← e2] at hk
  rw [← hD, ← hI]
  clear e1 e2
  have n1 : ar.nb true = false := by rw [har]; rfl
  have n2 : ar.nb false = true := by rw [har]; rfl
  cases l with
  | true =>
    conv => cbv
    refine onT rfl ?_
    conv => cbv
    refine ⟨fun h1 => ?_, fun h1 => ?_⟩
    · have h2 : ar.cb .gtr (ar.len D) 0 = false := h1
      rw [if_pos rfl, h2] at hk
      conv => cbv
      refine onF n1 ?_
      conv => cbv
      exact hk
    · have h2 : ar.cb .gtr (ar.len D) 0 = true := h1
      rw [if_pos rfl, h2] at hk
      conv => cbv
      exact hk
  | false =>
    conv => cbv
    refine onF rfl ?_
    conv => cbv
    refine onT n2 ?_
    conv => cbv
    rw [if_neg (by decide)] at hk
    exact hk

theorem kind_sound : Sound Try.prog 49 fun args k => ∃ (it : It) (l : Bool), args = [.a it.row, .s (.v (.bool l))] ∧ k [.s (.v (.int .i64 (if it.odd then 78 else if it.l = l then 0 else 75)))] := by
  refine Sound.of_body tt_ok ent_ok Try.func49 rfl ?_
  rintro ar har Γ hΓ args k ⟨⟨l, d, sd, its, ss⟩, w, hargs, hk⟩
  obtain ⟨o, ho⟩ : ∃ o, o = (It.mk l d sd its ss).odd := ⟨_, rfl⟩
  obtain ⟨D, hD⟩ : ∃ D, D = d.map b8 := ⟨_, rfl⟩
  obtain ⟨I, hI⟩ : ∃ I, I = rowsOf its := ⟨_, rfl⟩
  have hrow : (It.mk l d sd its ss).row = [.c (.v (.bool l)), .c (.sl D sd), .c (.sl I ss)] := by rw [hD, hI]; rfl
  have e : ar.bb .neq l w = !(l == w) := bbnIs har l w
  rw [← ho] at hk
  have hodd : ∀ (Γ : Ctx) (d' : Nat) (k : List PR → Prop) (R : Prop), Γ = ctx Try.prog d' → k [.s (.v (.bool o))] → Γ.g 63 [.a [.c (.v (.bool l)), .c (.sl D sd), .c (.sl I ss)]] k ∨ R := fun Γ d' k R hΓ hk => call_by hΓ odd_sound ⟨.mk l d sd its ss, by rw [hrow], by rw [← ho]; exact hk⟩
  rw [hrow] at hargs
  clear ho hD hI hrow
  subst hargs
  conv => cbv
  refine hodd _ _ _ _ hΓ ?_
  conv => cbv
  refine ⟨fun h1 => ?_, fun h1 => ?_⟩
  · have h1 : o = true := h1
    rw [h1, if_pos rfl] at hk
    conv => cbv
    exact hk
  · have h1 : o = false := h1
    rw [h1, if_neg (by decide)] at hk
    conv => cbv
    refine ⟨fun h2 => ?_, fun h2 => ?_⟩
    · have h2 : ar.bb .neq l w = true := h2
      rw [e] at h2
      rw [if_neg (by simp [It.l]; simpa using h2)] at hk
      conv => cbv
      exact hk
    · have h2 : ar.bb .neq l w = false := h2
      rw [e] at h2
      rw [if_pos (by simp [It.l]; simpa using h2)] at hk
      conv => cbv
      exact hk
end Go.Eng
namespace Go.Eng
open Go Go.Proofs
set_option maxRecDepth 100000
set_option maxHeartbeats 2000000
set_option linter.unusedVariables false

/-- How many bits. -/
def bl (n : Nat) : Nat := if n = 0 then 0 else Nat.log2 n + 1

theorem bl_shift {n s : Nat} (h : 2 ^ s ≤ n) : bl n = bl (n / 2 ^ s) + s := by
  have h0 : n ≠ 0 := by have := Nat.two_pow_pos s; omega
  have h1 : n / 2 ^ s ≠ 0 := by have := Nat.div_pos h (Nat.two_pow_pos s); omega
  unfold bl
  rw [if_neg h0, if_neg h1]
  have e : Nat.log2 n = Nat.log2 (n / 2 ^ s) + s := by
    refine (Nat.log2_eq_iff h0).2 ?_
    have l1 := Nat.log2_self_le h1
    have l2 := Nat.lt_log2_self (n := n / 2 ^ s)
    constructor
    · rw [Nat.pow_add]
      exact Nat.le_trans (Nat.mul_le_mul_right _ l1) (Nat.div_mul_le_self _ _)
    · rw [show (n / 2 ^ s).log2 + s + 1 = ((n / 2 ^ s).log2 + 1) + s by omega, Nat.pow_add]
      exact (Nat.div_lt_iff_lt_mul (Nat.two_pow_pos s)).1 l2
  omega

def len8 : ByteArray := ⟨⟨[0, 1, 2, 2, 3, 3, 3, 3, 4, 4, 4, 4, 4, 4, 4, 4, 5, 5, 5, 5, 5, 5, 5, 5, 5, 5, 5, 5, 5, 5, 5, 5, 6, 6, 6, 6, 6, 6, 6, 6, 6, 6, 6, 6, 6, 6, 6, 6, 6, 6, 6, 6, 6, 6, 6, 6, 6, 6, 6, 6, 6, 6, 6, 6, 7, 7, 7, 7, 7, 7, 7, 7, 7, 7, 7, 7, 7, 7, 7, 7, 7, 7, 7, 7, 7, 7, 7, 7, 7, 7, 7, 7, 7, 7, 7, 7, 7, 7, 7, 7, 7, 7, 7, 7, 7, 7, 7, 7, 7, 7, 7, 7, 7, 7, 7, 7, 7, 7, 7, 7, 7, 7, 7, 7, 7, 7, 7, 7, 8, 8, 8, 8, 8, 8, 8, 8, 8, 8, 8, 8, 8, 8, 8, 8, 8, 8, 8, 8, 8, 8, 8, 8, 8, 8, 8, 8, 8, 8, 8, 8, 8, 8, 8, 8, 8, 8, 8, 8, 8, 8, 8, 8, 8, 8, 8, 8, 8, 8, 8, 8, 8, 8, 8, 8, 8, 8, 8, 8, 8, 8, 8, 8, 8, 8, 8, 8, 8, 8, 8, 8, 8, 8, 8, 8, 8, 8, 8, 8, 8, 8, 8, 8, 8, 8, 8, 8, 8, 8, 8, 8, 8, 8, 8, 8, 8, 8, 8, 8, 8, 8, 8, 8, 8, 8, 8, 8, 8, 8, 8, 8, 8, 8, 8, 8, 8, 8, 8, 8, 8, 8, 8, 8, 8, 8, 8, 8]⟩⟩

theorem len8_tab : ∀ m : Fin 256, len8[m.val]? = some (UInt8.ofNat (bl m.val)) ∧ bl m.val < 256 := by decide +kernel

theorem tabAt {y : Int} {m : Nat} (hm : m < 256) (hy : y = (m : Int)) : 0 ≤ y ∧ ∃ b : UInt8, len8[y.toNat]? = some b ∧ ((bl m : Nat) : Int) = b.toNat := by
  have h := len8_tab ⟨m, hm⟩
  subst hy
  refine ⟨by omega, _, by rw [Int.toNat_natCast]; exact h.1, ?_⟩
  show ((bl m : Nat) : Int) = (((UInt8.ofNat (bl m)).toNat : Nat) : Int)
  rw [UInt8.toNat_ofNat', Nat.mod_eq_of_lt h.2]

theorem shr_lit {ar : Ar} (har : ar = arS) {k : IntKind} {x : Int} {n s : Nat} (hx : x = (n : Int)) (hs : s ≤ k.bits) : ar.ib .shr k x (s : Int) = ((n / 2 ^ s : Nat) : Int) := by
  rw [hx, iIs har]; exact ib_shr64 hs

theorem bl_le {n : Nat} (h : n < 18446744073709551616) : bl n ≤ 64 := by
  unfold bl; split
  · omega
  · have := (Nat.log2_lt (by assumption)).2 (show n < 2 ^ 64 from h); omega

theorem len64_sound : Sound Try.prog 76 fun args k => ∃ n : Nat, args = [.s (.v (.int .u64 n))] ∧ n < 18446744073709551616 ∧ k [.s (.v (.int .i64 (bl n)))] := by
  refine Sound.of_body tt_ok ent_ok Try.func76 rfl ?_
  rintro ar har Γ hΓ args k ⟨n, hargs, hn, hk⟩
  obtain ⟨x, hx⟩ : ∃ x : Int, x = n := ⟨_, rfl⟩
  have fin : ∀ (c m : Nat), bl n = bl m + c → c ≤ 56 → m < 256 → k [.s (.v (.int .i64 (ar.ib .add .i64 (c : Int) (ar.cv .i64 ((bl m : Nat) : Int)))))] := fun c m h hc hm => by
    have := bl_le (n := m) (by omega)
    rw [cvI64 har (by omega), iAdd har (by omega)]
    rw [show (c : Int) + ((bl m : Nat) : Int) = ((bl n : Nat) : Int) by omega]
    exact hk
  have cv : ∀ {y : Int} {m : Nat}, y = (m : Int) → m < 256 → ar.cv .u8 y = (m : Int) := fun hy hm => by rw [cvU8 har, hy]; omega
  rw [← hx] at hargs
  subst hargs
  conv => cbv
  refine ⟨fun h1 => ?_, fun h1 => ?_⟩
  · have g1 : 4294967296 ≤ n := by have := cGe har (a := x) h1; rw [hx] at this; omega
    obtain ⟨m1, q1⟩ : ∃ m, m = n / 2 ^ 32 := ⟨_, rfl⟩
    have e1 : (ar.ib .shr .u64 x 32) = (m1 : Int) := by rw [q1]; exact shr_lit har (k := .u64) (s := 32) hx (by decide)
    have d1 : bl n = bl m1 + 32 := by rw [q1]; exact bl_shift (s := 32) (by omega)
    have l1 : m1 < 4294967296 := by omega
    conv => cbv
    refine ⟨fun h2 => ?_, fun h2 => ?_⟩
    · have g11 : 65536 ≤ m1 := by have := cGe har (a := (ar.ib .shr .u64 x 32)) h2; rw [e1] at this; omega
      obtain ⟨m11, q11⟩ : ∃ m, m = m1 / 2 ^ 16 := ⟨_, rfl⟩
      have e11 : (ar.ib .shr .u64 (ar.ib .shr .u64 x 32) 16) = (m11 : Int) := by rw [q11]; exact shr_lit har (k := .u64) (s := 16) e1 (by decide)
      have d11 : bl n = bl m11 + 48 := by rw [q11]; have := bl_shift (n := m1) (s := 16) (by omega); omega
      have l11 : m11 < 65536 := by omega
      conv => cbv
      refine ⟨fun h3 => ?_, fun h3 => ?_⟩
      · have g111 : 256 ≤ m11 := by have := cGe har (a := (ar.ib .shr .u64 (ar.ib .shr .u64 x 32) 16)) h3; rw [e11] at this; omega
        obtain ⟨m111, q111⟩ : ∃ m, m = m11 / 2 ^ 8 := ⟨_, rfl⟩
        have e111 : (ar.ib .shr .u64 (ar.ib .shr .u64 (ar.ib .shr .u64 x 32) 16) 8) = (m111 : Int) := by rw [q111]; exact shr_lit har (k := .u64) (s := 8) e11 (by decide)
        have d111 : bl n = bl m111 + 56 := by rw [q111]; have := bl_shift (n := m11) (s := 8) (by omega); omega
        have l111 : m111 < 256 := by omega
        conv => cbv
        refine ⟨((bl m111 : Nat) : Int), fun _ => tabAt l111 (cv e111 l111), ?_⟩
        conv => cbv
        exact fin 56 m111 d111 (by omega) l111
      · have g110 : m11 < 256 := by have := cNge har (a := (ar.ib .shr .u64 (ar.ib .shr .u64 x 32) 16)) h3; rw [e11] at this; omega
        obtain ⟨m110, q110⟩ : ∃ m, m = m11 := ⟨_, rfl⟩
        have e110 : (ar.ib .shr .u64 (ar.ib .shr .u64 x 32) 16) = (m110 : Int) := by rw [q110]; exact e11
        have d110 : bl n = bl m110 + 48 := by rw [q110]; exact d11
        have l110 : m110 < 256 := by omega
        conv => cbv
        refine ⟨((bl m110 : Nat) : Int), fun _ => tabAt l110 (cv e110 l110), ?_⟩
        conv => cbv
        exact fin 48 m110 d110 (by omega) l110
    · have g10 : m1 < 65536 := by have := cNge har (a := (ar.ib .shr .u64 x 32)) h2; rw [e1] at this; omega
      obtain ⟨m10, q10⟩ : ∃ m, m = m1 := ⟨_, rfl⟩
      have e10 : (ar.ib .shr .u64 x 32) = (m10 : Int) := by rw [q10]; exact e1
      have d10 : bl n = bl m10 + 32 := by rw [q10]; exact d1
      have l10 : m10 < 65536 := by omega
      conv => cbv
      refine ⟨fun h3 => ?_, fun h3 => ?_⟩
      · have g101 : 256 ≤ m10 := by have := cGe har (a := (ar.ib .shr .u64 x 32)) h3; rw [e10] at this; omega
        obtain ⟨m101, q101⟩ : ∃ m, m = m10 / 2 ^ 8 := ⟨_, rfl⟩
        have e101 : (ar.ib .shr .u64 (ar.ib .shr .u64 x 32) 8) = (m101 : Int) := by rw [q101]; exact shr_lit har (k := .u64) (s := 8) e10 (by decide)
        have d101 : bl n = bl m101 + 40 := by rw [q101]; have := bl_shift (n := m10) (s := 8) (by omega); omega
        have l101 : m101 < 256 := by omega
        conv => cbv
        refine ⟨((bl m101 : Nat) : Int), fun _ => tabAt l101 (cv e101 l101), ?_⟩
        conv => cbv
        exact fin 40 m101 d101 (by omega) l101
      · have g100 : m10 < 256 := by have := cNge har (a := (ar.ib .shr .u64 x 32)) h3; rw [e10] at this; omega
        obtain ⟨m100, q100⟩ : ∃ m, m = m10 := ⟨_, rfl⟩
        have e100 : (ar.ib .shr .u64 x 32) = (m100 : Int) := by rw [q100]; exact e10
        have d100 : bl n = bl m100 + 32 := by rw [q100]; exact d10
        have l100 : m100 < 256 := by omega
        conv => cbv
        refine ⟨((bl m100 : Nat) : Int), fun _ => tabAt l100 (cv e100 l100), ?_⟩
        conv => cbv
        exact fin 32 m100 d100 (by omega) l100
  · have g0 : n < 4294967296 := by have := cNge har (a := x) h1; rw [hx] at this; omega
    obtain ⟨m0, q0⟩ : ∃ m, m = n := ⟨_, rfl⟩
    have e0 : x = (m0 : Int) := by rw [q0]; exact hx
    have d0 : bl n = bl m0 + 0 := by rw [q0]; rfl
    have l0 : m0 < 4294967296 := by omega
    conv => cbv
    refine ⟨fun h2 => ?_, fun h2 => ?_⟩
    · have g01 : 65536 ≤ m0 := by have := cGe har (a := x) h2; rw [e0] at this; omega
      obtain ⟨m01, q01⟩ : ∃ m, m = m0 / 2 ^ 16 := ⟨_, rfl⟩
      have e01 : (ar.ib .shr .u64 x 16) = (m01 : Int) := by rw [q01]; exact shr_lit har (k := .u64) (s := 16) e0 (by decide)
      have d01 : bl n = bl m01 + 16 := by rw [q01]; have := bl_shift (n := m0) (s := 16) (by omega); omega
      have l01 : m01 < 65536 := by omega
      conv => cbv
      refine ⟨fun h3 => ?_, fun h3 => ?_⟩
      · have g011 : 256 ≤ m01 := by have := cGe har (a := (ar.ib .shr .u64 x 16)) h3; rw [e01] at this; omega
        obtain ⟨m011, q011⟩ : ∃ m, m = m01 / 2 ^ 8 := ⟨_, rfl⟩
        have e011 : (ar.ib .shr .u64 (ar.ib .shr .u64 x 16) 8) = (m011 : Int) := by rw [q011]; exact shr_lit har (k := .u64) (s := 8) e01 (by decide)
        have d011 : bl n = bl m011 + 24 := by rw [q011]; have := bl_shift (n := m01) (s := 8) (by omega); omega
        have l011 : m011 < 256 := by omega
        conv => cbv
        refine ⟨((bl m011 : Nat) : Int), fun _ => tabAt l011 (cv e011 l011), ?_⟩
        conv => cbv
        exact fin 24 m011 d011 (by omega) l011
      · have g010 : m01 < 256 := by have := cNge har (a := (ar.ib .shr .u64 x 16)) h3; rw [e01] at this; omega
        obtain ⟨m010, q010⟩ : ∃ m, m = m01 := ⟨_, rfl⟩
        have e010 : (ar.ib .shr .u64 x 16) = (m010 : Int) := by rw [q010]; exact e01
        have d010 : bl n = bl m010 + 16 := by rw [q010]; exact d01
        have l010 : m010 < 256 := by omega
        conv => cbv
        refine ⟨((bl m010 : Nat) : Int), fun _ => tabAt l010 (cv e010 l010), ?_⟩
        conv => cbv
        exact fin 16 m010 d010 (by omega) l010
    · have g00 : m0 < 65536 := by have := cNge har (a := x) h2; rw [e0] at this; omega
      obtain ⟨m00, q00⟩ : ∃ m, m = m0 := ⟨_, rfl⟩
      have e00 : x = (m00 : Int) := by rw [q00]; exact e0
      have d00 : bl n = bl m00 + 0 := by rw [q00]; exact d0
      have l00 : m00 < 65536 := by omega
      conv => cbv
      refine ⟨fun h3 => ?_, fun h3 => ?_⟩
      · have g001 : 256 ≤ m00 := by have := cGe har (a := x) h3; rw [e00] at this; omega
        obtain ⟨m001, q001⟩ : ∃ m, m = m00 / 2 ^ 8 := ⟨_, rfl⟩
        have e001 : (ar.ib .shr .u64 x 8) = (m001 : Int) := by rw [q001]; exact shr_lit har (k := .u64) (s := 8) e00 (by decide)
        have d001 : bl n = bl m001 + 8 := by rw [q001]; have := bl_shift (n := m00) (s := 8) (by omega); omega
        have l001 : m001 < 256 := by omega
        conv => cbv
        refine ⟨((bl m001 : Nat) : Int), fun _ => tabAt l001 (cv e001 l001), ?_⟩
        conv => cbv
        exact fin 8 m001 d001 (by omega) l001
      · have g000 : m00 < 256 := by have := cNge har (a := x) h3; rw [e00] at this; omega
        obtain ⟨m000, q000⟩ : ∃ m, m = m00 := ⟨_, rfl⟩
        have e000 : x = (m000 : Int) := by rw [q000]; exact e00
        have d000 : bl n = bl m000 + 0 := by rw [q000]; exact d00
        have l000 : m000 < 256 := by omega
        conv => cbv
        refine ⟨((bl m000 : Nat) : Int), fun _ => tabAt l000 (cv e000 l000), ?_⟩
        conv => cbv
        exact fin 0 m000 d000 (by omega) l000
end Go.Eng
namespace Go.Eng
open Go Go.Proofs
set_option maxRecDepth 100000
set_option maxHeartbeats 4000000
set_option linter.unusedVariables false

theorem bl_words {a b c d : Nat} (ha : a < 18446744073709551616) (hb : b < 18446744073709551616) (hc : c < 18446744073709551616) (hd : d < 18446744073709551616) :
    bl (v4 a b c d) = if d ≠ 0 then 192 + bl d else if c ≠ 0 then 128 + bl c else if b ≠ 0 then 64 + bl b else bl a := by
  have key : ∀ (s m : Nat), v4 a b c d / 2 ^ s = m → m ≠ 0 → bl (v4 a b c d) = s + bl m := fun s m h h0 => by
    have : 2 ^ s ≤ v4 a b c d := by
      rcases Nat.lt_or_ge (v4 a b c d) (2 ^ s) with h' | h'
      · rw [Nat.div_eq_of_lt h'] at h; omega
      · exact h'
    rw [bl_shift this, h]; omega
  split
  · exact key 192 d (by unfold v4; rw [show (2:Nat)^192 = 6277101735386680763835789423207666416102355444464034512896 from rfl]; omega) (by assumption)
  · split
    · exact key 128 c (by unfold v4; rw [show (2:Nat)^128 = 340282366920938463463374607431768211456 from rfl]; omega) (by assumption)
    · split
      · exact key 64 b (by unfold v4; rw [show (2:Nat)^64 = 18446744073709551616 from rfl]; omega) (by assumption)
      · congr 1; unfold v4; omega

theorem u256Len_sound : Sound Try.prog 61 fun args k => ∃ n : Nat, args = [pw n] ∧ n < M256 ∧ k [.s (.v (.int .i64 (bl n)))] := by
  refine Sound.of_body tt_ok ent_ok Try.func61 rfl ?_
  rintro ar har Γ hΓ args k ⟨n, hargs, hn, hk⟩
  obtain ⟨a0, a1, a2, a3, ha0, ha1, ha2, ha3, hv⟩ := v4_of n hn
  subst hv
  obtain ⟨x0, hx0⟩ : ∃ z : Int, z = a0 := ⟨_, rfl⟩
  obtain ⟨x1, hx1⟩ : ∃ z : Int, z = a1 := ⟨_, rfl⟩
  obtain ⟨x2, hx2⟩ : ∃ z : Int, z = a2 := ⟨_, rfl⟩
  obtain ⟨x3, hx3⟩ : ∃ z : Int, z = a3 := ⟨_, rfl⟩
  unfold pw at hargs
  rw [w4_v4 ha0 ha1 ha2 ha3, ← hx0, ← hx1, ← hx2, ← hx3] at hargs
  rw [bl_words ha0 ha1 ha2 ha3] at hk
  have len : ∀ (Γ : Ctx) (d' : Nat) (k : List PR → Prop) (R : Prop) (m : Nat) (x : Int), x = m → m < 18446744073709551616 → Γ = ctx Try.prog d' → k [.s (.v (.int .i64 (bl m)))] → Γ.g 76 [.s (.v (.int .u64 x))] k ∨ R := fun Γ d' k R m x hx hm hΓ hk => call_by hΓ len64_sound ⟨m, by rw [hx], hm, hk⟩
  have add : ∀ (c m : Nat), c ≤ 192 → m < 18446744073709551616 → ar.ib .add .i64 (c : Int) ((bl m : Nat) : Int) = ((c + bl m : Nat) : Int) := fun c m hc hm => by
    have := bl_le hm
    rw [iAdd har (by omega)]; omega
  subst hargs
  conv => cbv
  refine .inl ⟨5, ?_⟩
  conv => cbv
  refine ⟨fun h => ?_, fun h => ?_⟩
  · have g := cNe har h
    rw [if_pos (by omega), ← add 192 a3 (by omega) ha3] at hk
    conv => cbv
    refine len _ _ _ _ a3 _ hx3 ha3 hΓ ?_
    conv => cbv
    exact hk
  · have g := cNne har h
    rw [if_neg (by omega)] at hk
    conv => cbv
    refine ⟨fun h => ?_, fun h => ?_⟩
    · have g := cNe har h
      rw [if_pos (by omega), ← add 128 a2 (by omega) ha2] at hk
      conv => cbv
      refine len _ _ _ _ a2 _ hx2 ha2 hΓ ?_
      conv => cbv
      exact hk
    · have g := cNne har h
      rw [if_neg (by omega)] at hk
      conv => cbv
      refine ⟨fun h => ?_, fun h => ?_⟩
      · have g := cNe har h
        rw [if_pos (by omega), ← add 64 a1 (by omega) ha1] at hk
        conv => cbv
        refine len _ _ _ _ a1 _ hx1 ha1 hΓ ?_
        conv => cbv
        exact hk
      · have g := cNne har h
        rw [if_neg (by omega)] at hk
        conv => cbv
        refine ⟨fun h => ?_, fun h => ?_⟩
        · have g := cNe har h
          rw [← Nat.zero_add (bl a0), ← add 0 a0 (by omega) ha0] at hk
          conv => cbv
          refine len _ _ _ _ a0 _ hx0 ha0 hΓ ?_
          conv => cbv
          exact hk
        · have g := cNne har h
          have e : bl a0 = 0 := by rw [show a0 = 0 by omega]; rfl
          rw [e] at hk
          conv => cbv
          exact hk

/-- The last p bytes, the highest first. -/
def be (n : Nat) : Nat → List Int
  | 0 => []
  | p + 1 => ((n / 256 ^ p % 256 : Nat) : Int) :: be n p

theorem be_length (n : Nat) : ∀ p, (be n p).length = p
  | 0 => rfl
  | p + 1 => by rw [be, List.length_cons, be_length n p]
theorem be_drop (n : Nat) : ∀ p q, (be n (p + q)).drop p = be n q
  | 0, q => by rw [Nat.zero_add]; rfl
  | p + 1, q => by rw [show p + 1 + q = (p + q) + 1 by omega, be, List.drop_succ_cons, be_drop n p q]
theorem be_range (n p : Nat) : ∀ b ∈ be n p, 0 ≤ b ∧ b < 256 := by
  induction p with
  | zero => intro b hb; cases hb
  | succ p ih =>
    intro b hb
    rw [be] at hb
    rcases List.mem_cons.1 hb with rfl | hb
    · omega
    · exact ih b hb

theorem byte_word (n p : Nat) : n / 2 ^ (64 * (p / 8)) % 18446744073709551616 / 2 ^ (8 * (p % 8)) % 256 = n / 256 ^ p % 256 := by
  refine Nat.eq_of_testBit_eq fun q => ?_
  rw [show (256 : Nat) ^ p = 2 ^ (8 * p) by rw [Nat.pow_mul], show (256 : Nat) = 2 ^ 8 from rfl, show (18446744073709551616 : Nat) = 2 ^ 64 from rfl]
  simp only [Nat.testBit_mod_two_pow, Nat.testBit_div_two_pow]
  by_cases h : q < 8
  · rw [decide_eq_true h, Bool.true_and, Bool.true_and, decide_eq_true (show q + 8 * (p % 8) < 64 by omega), Bool.true_and, show q + 8 * (p % 8) + 64 * (p / 8) = q + 8 * p by omega]
  · rw [decide_eq_false h, Bool.false_and, Bool.false_and]

theorem u256Put_sound : Sound Try.prog 60 fun args k => ∃ n : Nat, args = [pw n] ∧ k [.a [.r 32 (u8s (be n 32))]] := by
  refine Sound.of_body tt_ok ent_ok Try.func60 rfl ?_
  rintro ar har Γ hΓ args k ⟨n, hargs, hk⟩
  obtain ⟨x, hx⟩ : ∃ x, x = w4 n := ⟨_, rfl⟩
  obtain ⟨zs, hzs⟩ : ∃ zs : List Value, zs = List.replicate 32 (.int .u8 0) := ⟨_, rfl⟩
  unfold pw at hargs
  rw [← hx] at hargs
  subst hargs
  conv => cbv
  refine .inr ⟨{ q : Nat × Int × List Value // q.1 ≤ 32 ∧ q.2.1 = q.1 ∧ q.2.2 = List.replicate (32 - q.1) (.int .u8 0) ++ u8s (be n q.1) },
    fun q => ⟨mk 22 [(1, .s (.ptr 0 0)), (2, .s (.ptr 1 0)), (3, .s (.ptr 2 0)), (5, pint q.1.2.1)], [.box [.r 4 x], .box [.r 32 zs], .box [.r 32 q.1.2.2]]⟩,
    fun q => 32 - q.1.1, [], _, ⟨(0, 0, zs), Nat.zero_le _, rfl, by rw [hzs]; rfl⟩, rfl, ?_, ?_⟩
  · subst hzs
    conv => cbv
    simp
  · rintro ⟨⟨p, pi, Z⟩, hq⟩
    have hp : p ≤ 32 := hq.1
    have hpi : pi = (p : Int) := hq.2.1
    have hZ : Z = List.replicate (32 - p) (.int .u8 0) ++ u8s (be n p) := hq.2.2
    dsimp only
    conv => cbv
    refine ⟨fun h => ?_, fun h => ?_⟩
    · have hlt : p < 32 := by have := cLt har h; omega
      have e1 : ar.ib .sub .i64 31 pi = ((31 - p : Nat) : Int) := by rw [iSub har (by omega)]; omega
      have e2 : ar.ib .quo .i64 pi 8 = ((p / 8 : Nat) : Int) := by rw [hpi]; exact iQuo har (b := 8) (by omega)
      have e3 : ar.ib .rem .i64 pi 8 = ((p % 8 : Nat) : Int) := by rw [hpi]; exact iRem har (b := 8)
      have e4 : ar.ib .mul .i64 8 (ar.ib .rem .i64 pi 8) = ((8 * (p % 8) : Nat) : Int) := by rw [e3, iMul har (by omega)]; omega
      obtain ⟨v, hv⟩ : ∃ v : Int, v = ((n / 2 ^ (64 * (p / 8)) % 18446744073709551616 : Nat) : Int) := ⟨_, rfl⟩
      have n2 : ar.nat (ar.ib .quo .i64 pi 8) = p / 8 := natOf har e2
      have n1 : ar.nat (ar.ib .sub .i64 31 pi) = 31 - p := natOf har e1
      have rx : x[ar.nat (ar.ib .quo .i64 pi 8)]? = some (.int .u64 v) := by rw [n2, hx, hv]; exact w4_get n (by omega)
      have b2 : 0 ≤ ar.ib .quo .i64 pi 8 ∧ ar.ib .quo .i64 pi 8 < 4 := by rw [e2]; omega
      have b4 : 0 ≤ ar.ib .mul .i64 8 (ar.ib .rem .i64 pi 8) := by rw [e4]; omega
      have b1 : 0 ≤ ar.ib .sub .i64 31 pi ∧ ar.ib .sub .i64 31 pi < 32 := by rw [e1]; omega
      have b5 : ar.nat (ar.ib .sub .i64 31 pi) < 32 := by rw [n1]; omega
      have hbyte : ar.cv .u8 (ar.ib .shr .u64 v (ar.ib .mul .i64 8 (ar.ib .rem .i64 pi 8))) = ((n / 256 ^ p % 256 : Nat) : Int) := by
        rw [e4, shr_lit har hv (by simp [IntKind.bits]; omega), cvU8 har, ← byte_word]; omega
      have hset : ar.set Z (ar.nat (ar.ib .sub .i64 31 pi)) (.int .u8 (ar.cv .u8 (ar.ib .shr .u64 v (ar.ib .mul .i64 8 (ar.ib .rem .i64 pi 8))))) = List.replicate (32 - (p + 1)) (.int .u8 0) ++ u8s (be n (p + 1)) := by
        rw [setIs har, n1, hbyte, hZ, show 32 - p = (32 - (p + 1)) + 1 by omega, List.replicate_succ', List.append_assoc, show 31 - p = 32 - (p + 1) by omega,
          List.set_append_right _ _ (by simp), List.length_replicate, Nat.sub_self]
        rfl
      obtain ⟨Z', hZ'⟩ : ∃ Z', Z' = ar.set Z (ar.nat (ar.ib .sub .i64 31 pi)) (.int .u8 (ar.cv .u8 (ar.ib .shr .u64 v (ar.ib .mul .i64 8 (ar.ib .rem .i64 pi 8))))) := ⟨_, rfl⟩
      conv => cbv
      refine ⟨fun _ => b2, _, rx, ?_⟩
      conv => cbv
      refine ⟨fun _ => b4, fun _ => b1, fun _ => b5, ?_⟩
      refine ⟨⟨(p + 1, ar.ib .add .i64 pi 1, ar.set Z (ar.nat (ar.ib .sub .i64 31 pi)) (.int .u8 (ar.cv .u8 (ar.ib .shr .u64 v (ar.ib .mul .i64 8 (ar.ib .rem .i64 pi 8)))))), hlt, iSucc har hpi (by omega), hset⟩, ?_, ?_⟩
      · dsimp only
        conv => cbv
        simp
      · show 32 - (p + 1) < 32 - p
        omega
    · have hge : p = 32 := by have := cNlt har h; omega
      have hZ2 : Z = u8s (be n 32) := by rw [hZ, hge]; rfl
      rw [← hZ2] at hk
      conv => cbv
      exact hk
end Go.Eng
namespace Go.Eng
open Go Go.Proofs
set_option maxRecDepth 100000
set_option maxHeartbeats 4000000
set_option linter.unusedVariables false

/-- How many bytes. -/
def blen (n : Nat) : Nat := (bl n + 7) / 8

theorem bl_le256 {n : Nat} (h : n < M256) : bl n ≤ 256 := by
  unfold bl; split
  · omega
  · have := (Nat.log2_lt (by assumption)).2 (show n < 2 ^ 256 from h); omega
theorem blen_le {n : Nat} (h : n < M256) : blen n ≤ 32 := by have := bl_le256 h; unfold blen; omega

theorem cells_b8 (bs : List Int) : (u8s bs).map cell1 = bs.map b8 := by
  rw [u8s, List.map_map]; rfl

theorem u256Bytes_sound : Sound Try.prog 45 fun args k => ∃ n : Nat, args = [pw n] ∧ n < M256 ∧ k [.s (.sl ((be n (blen n)).map b8) [])] := by
  refine Sound.of_body tt_ok ent_ok Try.func45 rfl ?_
  rintro ar har Γ hΓ args k ⟨n, hargs, hn, hk⟩
  obtain ⟨x, hx⟩ : ∃ x, x = w4 n := ⟨_, rfl⟩
  obtain ⟨bs, hbs⟩ : ∃ bs, bs = u8s (be n 32) := ⟨_, rfl⟩
  obtain ⟨b, hb⟩ : ∃ b : Int, b = (bl n : Int) := ⟨_, rfl⟩
  have hput : ∀ (Γ : Ctx) (d' : Nat) (k : List PR → Prop) (R : Prop), Γ = ctx Try.prog d' → k [.a [.r 32 bs]] → Γ.g 60 [.a [.r 4 x]] k ∨ R := fun Γ d' k R hΓ hk => call_by hΓ u256Put_sound ⟨n, by unfold pw; rw [hx], by rw [← hbs]; exact hk⟩
  have hlen : ∀ (Γ : Ctx) (d' : Nat) (k : List PR → Prop) (R : Prop), Γ = ctx Try.prog d' → k [.s (.v (.int .i64 b))] → Γ.g 61 [.a [.r 4 x]] k ∨ R := fun Γ d' k R hΓ hk => call_by hΓ u256Len_sound ⟨n, by unfold pw; rw [hx], hn, by rw [← hb]; exact hk⟩
  have hble := bl_le256 hn
  have hbl := blen_le hn
  have e0 : ar.ib .add .i64 b 7 = ((bl n + 7 : Nat) : Int) := by rw [iAdd har (by omega)]; omega
  have e1 : ar.ib .quo .i64 (ar.ib .add .i64 b 7) 8 = ((blen n : Nat) : Int) := by rw [e0]; exact iQuo har (b := 8) (by omega)
  have e2 : ar.ib .sub .i64 32 (ar.ib .quo .i64 (ar.ib .add .i64 b 7) 8) = ((32 - blen n : Nat) : Int) := by rw [e1, iSub har (by omega)]; omega
  have hcells : ar.cells bs = (be n 32).map b8 := by rw [cellsIs har, hbs, cells_b8]
  have hcl : (ar.cells bs).length = 32 := by rw [hcells, List.length_map, be_length]
  have hfrm : ar.frm (ar.cells bs) (ar.nat (ar.ib .sub .i64 32 (ar.ib .quo .i64 (ar.ib .add .i64 b 7) 8))) = (be n (blen n)).map b8 := by
    rw [natOf har e2, frmIs har, hcells, ← List.map_drop]
    have := be_drop n (32 - blen n) (blen n)
    rw [show 32 - blen n + blen n = 32 by omega] at this
    rw [this]
  have hres : ar.app [] (ar.frm (ar.cells bs) (ar.nat (ar.ib .sub .i64 32 (ar.ib .quo .i64 (ar.ib .add .i64 b 7) 8)))) = (be n (blen n)).map b8 := by rw [appIs har, hfrm]; rfl
  have s1 : 0 ≤ ar.ib .sub .i64 32 (ar.ib .quo .i64 (ar.ib .add .i64 b 7) 8) ∧ ar.ib .sub .i64 32 (ar.ib .quo .i64 (ar.ib .add .i64 b 7) 8) ≤ (((ar.cells bs).length : Nat) : Int) ∧ (∀ z ∈ ar.cells bs, rlen z = 1) ∧ ∀ z ∈ ([] : List (List PS)), rlen z = 1 :=
    ⟨by rw [e2]; omega, by rw [e2, hcl]; omega, by rw [hcells]; exact b8_all _, by simp⟩
  have s2 : (0 + (ar.frm (ar.cells bs) (ar.nat (ar.ib .sub .i64 32 (ar.ib .quo .i64 (ar.ib .add .i64 b 7) 8)))).length) * 1 ≤ 140737488355328 ∧ ∀ y ∈ ar.frm (ar.cells bs) (ar.nat (ar.ib .sub .i64 32 (ar.ib .quo .i64 (ar.ib .add .i64 b 7) 8))), rlen y = 1 := by
    rw [hfrm]
    exact ⟨by rw [List.length_map, be_length]; omega, b8_all _⟩
  rw [← hres] at hk
  unfold pw at hargs
  rw [← hx] at hargs
  subst hargs
  conv => cbv
  refine hput _ _ _ _ hΓ ?_
  conv => cbv
  refine hlen _ _ _ _ hΓ ?_
  conv => cbv
  exact ⟨fun _ => s1, fun _ => s2, hk⟩

/-- A head: of what holds n bytes. -/
def hd (first : Int) (n : Nat) : List Int := if n ≤ 55 then [(first + n) % 256] else (first + 55 + blen n) % 256 :: be n (blen n)

theorem head_sound : Sound Try.prog 72 fun args k => ∃ (f : Int) (n : Nat), args = [.s (.v (.int .u8 f)), .s (.v (.int .i64 n))] ∧ 0 ≤ f ∧ f ≤ 192 ∧ n < 9223372036854775808 ∧ k [.s (.sl ((hd f n).map b8) [])] := by
  refine Sound.of_body tt_ok ent_ok Try.func72 rfl ?_
  rintro ar har Γ hΓ args k ⟨f, n, hargs, hf0, hf, hn, hk⟩
  obtain ⟨x, hx⟩ : ∃ x : Int, x = n := ⟨_, rfl⟩
  rw [← hx] at hargs
  subst hargs
  conv => cbv
  refine ⟨fun h => ?_, fun h => ?_⟩
  · have g := cLe har h
    rw [hd, if_pos (by omega)] at hk
    have e : ar.ib .add .u8 f (ar.cv .u8 x) = (f + n) % 256 := by
      rw [cvU8 har, iIs har]; show IntKind.u8.wrap _ = _; rw [u8Wrap]; omega
    rw [← e] at hk
    conv => cbv
    exact hk
  · have g := cNle har h
    rw [hd, if_neg (by omega)] at hk
    obtain ⟨w, hw⟩ : ∃ w, w = w4 n := ⟨_, rfl⟩
    obtain ⟨B, hB⟩ : ∃ B, B = (be n (blen n)).map b8 := ⟨_, rfl⟩
    have hBl : B.length = blen n := by rw [hB, List.length_map, be_length]
    have hbl := blen_le (n := n) (by unfold M256; omega)
    have hfrom : ∀ (Γ : Ctx) (d' : Nat) (k : List PR → Prop) (R : Prop), Γ = ctx Try.prog d' → k [.a [.r 4 w]] → Γ.g 46 [.s (.v (.int .u64 (ar.cv .u64 x)))] k ∨ R := fun Γ d' k R hΓ hk => call_by hΓ u256From_sound ⟨n, by rw [cvU64 har (by omega), hx], by omega, by unfold pw; rw [← hw]; exact hk⟩
    have hbytes : ∀ (Γ : Ctx) (d' : Nat) (k : List PR → Prop) (R : Prop), Γ = ctx Try.prog d' → k [.s (.sl B [])] → Γ.g 45 [.a [.r 4 w]] k ∨ R := fun Γ d' k R hΓ hk => call_by hΓ u256Bytes_sound ⟨n, by unfold pw; rw [hw], by unfold M256; omega, by rw [← hB]; exact hk⟩
    have hfirst : ar.ib .add .u8 (ar.ib .add .u8 f 55) (ar.cv .u8 (ar.len B)) = (f + 55 + blen n) % 256 := by
      rw [lenIs har, hBl, cvU8 har, iIs har, iIs har]; show IntKind.u8.wrap (IntKind.u8.wrap _ + _) = _; rw [u8Wrap, u8Wrap]; omega
    have hres : ar.app [b8 (ar.ib .add .u8 (ar.ib .add .u8 f 55) (ar.cv .u8 (ar.len B)))] B = ((f + 55 + blen n) % 256 :: be n (blen n)).map b8 := by
      rw [appIs har, hfirst, List.map_cons, ← hB]; rfl
    have s1 : (1 + B.length) * 1 ≤ 140737488355328 ∧ ∀ y ∈ B, rlen y = 1 := ⟨by rw [hBl]; omega, by rw [hB]; exact b8_all _⟩
    rw [← hres] at hk
    conv => cbv
    refine hfrom _ _ _ _ hΓ ?_
    conv => cbv
    refine hbytes _ _ _ _ hΓ ?_
    conv => cbv
    exact ⟨fun _ => s1, hk⟩
end Go.Eng
namespace Go.Eng
open Go Go.Proofs
set_option maxRecDepth 100000
set_option maxHeartbeats 4000000
set_option linter.unusedVariables false

mutual
def sz : It → Nat
  | .mk true _ _ its _ => (hd 192 (szs its)).length + szs its
  | .mk false d _ _ _ => match d with
    | [b] => if b < 128 then 1 else 2
    | d => (hd 128 d.length).length + d.length
def szs : List It → Nat
  | [] => 0
  | x :: xs => sz x + szs xs
end

theorem bl_le64' {n : Nat} (h : n < 18446744073709551616) : blen n ≤ 8 := by have := bl_le h; unfold blen; omega
theorem hd_len {f : Int} {n : Nat} (h : n < 18446744073709551616) : (hd f n).length ≤ 9 := by
  unfold hd; split
  · simp
  · rw [List.length_cons, be_length]; have := bl_le64' h; omega

mutual
theorem sz_le : ∀ x : It, x.bulk ≤ 2 ^ 40 → sz x ≤ 10 * x.bulk
  | .mk true d sd its ss, h => by
    simp only [It.bulk] at h
    have h1 := szs_le its (by omega)
    have h2 := hd_len (f := 192) (n := szs its) (by omega)
    simp only [sz, It.bulk]; omega
  | .mk false d sd its ss, h => by
    simp only [It.bulk] at h
    have h2 := hd_len (f := 128) (n := d.length) (by omega)
    simp only [sz, It.bulk]
    split
    · split <;> simp <;> omega
    · omega
theorem szs_le : ∀ xs : List It, bulks xs ≤ 2 ^ 40 → szs xs ≤ 10 * bulks xs
  | [], _ => by simp [szs]
  | x :: xs, h => by
    simp only [bulks] at h
    have h1 := sz_le x (by omega)
    have h2 := szs_le xs (by omega)
    simp only [szs, bulks]; omega
end
theorem szs_append (a b : List It) : szs (a ++ b) = szs a + szs b := by
  induction a with
  | nil => simp [szs]
  | cons x a ih => simp only [List.cons_append, szs, ih]; omega
theorem bulks_take (its : List It) (p : Nat) : bulks (its.take p) ≤ bulks its := by
  have := bulks_append (its.take p) (its.drop p)
  rw [List.take_append_drop] at this
  omega

def SizeC (B : Nat) (args : List PR) (k : List PR → Prop) : Prop := ∃ it : It, args = [.a it.row] ∧ it.bulk ≤ B ∧ B ≤ 2 ^ 40 ∧ k [.s (.v (.int .i64 (sz it)))]

theorem size_step (B : Nat) (ih : Sound Try.prog 57 (SizeC B)) : Sound Try.prog 57 (SizeC (B + 1)) := by
  refine Sound.of_body tt_ok ent_ok Try.func57 rfl ?_
  rintro ar har Γ hΓ args k ⟨⟨l, d, sd, its, ss⟩, hargs, hb, hB, hk⟩
  obtain ⟨D, hD⟩ : ∃ D, D = d.map b8 := ⟨_, rfl⟩
  obtain ⟨I, hI⟩ : ∃ I, I = rowsOf its := ⟨_, rfl⟩
  have hrow : (It.mk l d sd its ss).row = [.c (.v (.bool l)), .c (.sl D sd), .c (.sl I ss)] := by rw [hD, hI]; rfl
  have hDl : ar.len D = (d.length : Int) := by rw [lenIs har, hD, List.length_map]
  have hIl : ar.len I = (its.length : Int) := by rw [lenIs har, hI, rowsOf_length]
  have n1 : ar.nb true = false := by rw [har]; rfl
  have n2 : ar.nb false = true := by rw [har]; rfl
  simp only [It.bulk] at hb
  have hil := bulks_len its
  rw [hrow] at hargs
  subst hargs
  cases l with
  | false =>
    conv => cbv
    refine onT n2 ?_
    obtain ⟨H, hH⟩ : ∃ H, H = (hd 128 d.length).map b8 := ⟨_, rfl⟩
    have hhl := hd_len (f := 128) (n := d.length) (by omega)
    have hHl : ar.len H = ((hd 128 d.length).length : Int) := by rw [lenIs har, hH, List.length_map]
    have hhead : ∀ (Γ : Ctx) (d' : Nat) (k : List PR → Prop), Γ = ctx Try.prog d' → k [.s (.sl H [])] → Γ.g 72 [.s (.v (.int .u8 128)), .s (.v (.int .i64 (ar.len D)))] k := fun Γ d' k hΓ hk => call_by' hΓ head_sound ⟨128, d.length, by rw [hDl], by omega, by omega, by omega, by rw [← hH]; exact hk⟩
    have hsum : ar.ib .add .i64 (ar.len H) (ar.len D) = (((hd 128 d.length).length + d.length : Nat) : Int) := by rw [hHl, hDl, iAdd har (by omega)]; omega
    have long : (∀ b, d ≠ [b]) → k [.s (.v (.int .i64 (ar.ib .add .i64 (ar.len H) (ar.len D))))] := fun h => by
      rw [hsum]
      have : sz (.mk false d sd its ss) = (hd 128 d.length).length + d.length := by
        simp only [sz]
        try (split; exact absurd rfl (h _)); rfl
      rw [← this]; exact hk
    conv => cbv
    refine ⟨fun h => ?_, fun h => ?_⟩
    · have g := cEq har (a := ar.len D) h
      obtain ⟨b, hdb⟩ : ∃ b, d = [b] := by
        match d, (show d.length = 1 by omega) with
        | [b], _ => exact ⟨b, rfl⟩
      have hDb : D = [[.c (.v (.int .u8 b))]] := by rw [hD, hdb]; rfl
      have hD0 : D[(0 : Int).toNat]? = some [.c (.v (.int .u8 b))] := by rw [hDb]; rfl
      conv => cbv
      refine ⟨_, by omega, hD0, rfl, ?_⟩
      conv => cbv
      refine ⟨fun h2 => ?_, fun h2 => ?_⟩
      · have g2 := cLt har h2
        have : sz (.mk false d sd its ss) = 1 := by rw [hdb]; simp only [sz]; rw [if_pos g2]
        rw [this] at hk
        conv => cbv
        exact hk
      · have g2 := cNlt har h2
        have e2 : sz (.mk false d sd its ss) = (hd 128 d.length).length + d.length := by rw [hdb]; simp only [sz]; rw [if_neg (by omega)]; rfl
        rw [e2, ← hsum] at hk
        conv => cbv
        refine ⟨by rw [har]; kernel_rfl, ?_⟩
        refine hhead _ _ _ hΓ ?_
        conv => cbv
        exact hk
    · have g := cNeq har (a := ar.len D) h
      have hl := long (fun b hb => by rw [hb] at hDl; rw [hDl] at g; exact g rfl)
      conv => cbv
      refine ⟨by rw [har]; kernel_rfl, ?_⟩
      refine hhead _ _ _ hΓ ?_
      conv => cbv
      exact hl
  | true =>
    obtain ⟨n, hn⟩ : ∃ n, n = szs its := ⟨_, rfl⟩
    have hnle := szs_le its (by omega)
    rw [← hn] at hnle
    obtain ⟨H, hH⟩ : ∃ H, H = (hd 192 n).map b8 := ⟨_, rfl⟩
    have hhl := hd_len (f := 192) (n := n) (by omega)
    have hHl : ar.len H = ((hd 192 n).length : Int) := by rw [lenIs har, hH, List.length_map]
    have hkk : sz (.mk true d sd its ss) = (hd 192 n).length + n := by simp only [sz]; rw [← hn]
    rw [hkk] at hk
    conv => cbv
    refine onF n1 ?_
    conv => cbv
    refine .inr ⟨{ q : Nat × Int × Int // q.1 ≤ its.length ∧ q.2.1 = q.1 ∧ q.2.2 = (szs (its.take q.1) : Nat) }, fun q => ⟨mk 46 [(1, .s (.ptr 0 0)), (3, pint q.1.2.2), (30, .s (.p (.sl I ss))), (31, pint (ar.len I)), (32, pint q.1.2.1)], [.box [.c (.p (.v (.bool true))), .c (.p (.sl D sd)), .c (.p (.sl I ss))]]⟩,
      fun q => its.length - q.1.1, [], _, ⟨(0, 0, 0), Nat.zero_le _, rfl, rfl⟩, rfl, ?_, ?_⟩
    · conv => cbv
      simp
    · rintro ⟨⟨p, pi, acc⟩, hq⟩
      have hp : p ≤ its.length := hq.1
      have hpi : pi = (p : Int) := hq.2.1
      have hacc : acc = (szs (its.take p) : Nat) := hq.2.2
      dsimp only
      conv => cbv
      refine ⟨fun h => ?_, fun h => ?_⟩
      · have g := cLt har (b := ar.len I) h
        have hlt : p < its.length := by omega
        obtain ⟨x, hx⟩ : ∃ x, its[p]? = some x := ⟨_, List.getElem?_eq_getElem hlt⟩
        have hxb := bulk_get hx
        obtain ⟨l', d', sd', its', ss'⟩ := x
        obtain ⟨D', hD'⟩ : ∃ D', D' = d'.map b8 := ⟨_, rfl⟩
        obtain ⟨I', hI'⟩ : ∃ I', I' = rowsOf its' := ⟨_, rfl⟩
        have hrow' : (It.mk l' d' sd' its' ss').row = [.c (.v (.bool l')), .c (.sl D' sd'), .c (.sl I' ss')] := by rw [hD', hI']; rfl
        have rx : I[pi.toNat]? = some [.c (.v (.bool l')), .c (.sl D' sd'), .c (.sl I' ss')] := by rw [hI, hpi, Int.toNat_natCast, rowsOf_get hx, hrow']
        obtain ⟨z, hz⟩ : ∃ z : Int, z = (sz (.mk l' d' sd' its' ss') : Nat) := ⟨_, rfl⟩
        have hcall : ∀ (Γ : Ctx) (d'' : Nat) (k : List PR → Prop) (R : Prop), Γ = ctx Try.prog d'' → k [.s (.v (.int .i64 z))] → Γ.g 57 [.a [.c (.v (.bool l')), .c (.sl D' sd'), .c (.sl I' ss')]] k ∨ R := fun Γ d'' k R hΓ hk => call_by hΓ ih ⟨.mk l' d' sd' its' ss', by rw [hrow'], by omega, by omega, by rw [← hz]; exact hk⟩
        have htk : szs (its.take (p + 1)) = szs (its.take p) + sz (.mk l' d' sd' its' ss') := by rw [take_succ_get hx, szs_append]; simp [szs]
        have hacc2 : ar.ib .add .i64 acc z = (szs (its.take (p + 1)) : Nat) := by
          have h1 := szs_le (its.take (p + 1)) (by have := bulks_take its (p + 1); omega)
          have h2 := bulks_take its (p + 1)
          rw [iAdd har (by omega)]; omega
        conv => cbv
        refine ⟨_, by omega, rx, rfl, ?_⟩
        conv => cbv
        refine hcall _ _ _ _ hΓ ?_
        conv => cbv
        refine ⟨⟨(p + 1, ar.ib .add .i64 pi 1, ar.ib .add .i64 acc z), hlt, iSucc har hpi (by omega), hacc2⟩, ?_, ?_⟩
        · dsimp only
          conv => cbv
          simp
        · show its.length - (p + 1) < its.length - p
          omega
      · have g := cNlt har (b := ar.len I) h
        have hge : p = its.length := by omega
        rw [hge, List.take_length, ← hn] at hacc
        have hhead : ∀ (Γ : Ctx) (d' : Nat) (k : List PR → Prop) (R : Prop), Γ = ctx Try.prog d' → k [.s (.sl H [])] → Γ.g 72 [.s (.v (.int .u8 192)), .s (.v (.int .i64 acc))] k ∨ R := fun Γ d' k R hΓ hk => call_by hΓ head_sound ⟨192, n, by rw [hacc], by omega, by omega, by omega, by rw [← hH]; exact hk⟩
        have hsum : ar.ib .add .i64 (ar.len H) acc = (((hd 192 n).length + n : Nat) : Int) := by rw [hHl, hacc, iAdd har (by omega)]; omega
        rw [← hsum] at hk
        conv => cbv
        refine hhead _ _ _ _ hΓ ?_
        conv => cbv
        exact hk

theorem size_sound : ∀ B, Sound Try.prog 57 (SizeC B)
  | 0 => fun args k m W vs _ _ _ ⟨it, _, hb, _⟩ => by have := bulk_pos it; omega
  | B + 1 => size_step B (size_sound B)
end Go.Eng
namespace Go.Eng
open Go Go.Proofs
set_option maxRecDepth 100000
set_option maxHeartbeats 4000000
set_option linter.unusedVariables false

mutual
def okS : It → Bool
  | .mk true d _ its _ => decide (d.length = 0) && okSs its
  | .mk false _ _ its _ => decide (its.length = 0)
def okSs : List It → Bool
  | [] => true
  | x :: xs => okS x && okSs xs
end
mutual
def dep : It → Nat
  | .mk true _ _ its _ => depths its + 1
  | .mk false _ _ _ _ => 0
def depths : List It → Nat
  | [] => 0
  | x :: xs => max (dep x) (depths xs)
end
theorem okSs_append (a b : List It) : okSs (a ++ b) = (okSs a && okSs b) := by
  induction a with
  | nil => simp [okSs]
  | cons x a ih => simp only [List.cons_append, okSs, ih, Bool.and_assoc]
theorem deps_append (a b : List It) : depths (a ++ b) = max (depths a) (depths b) := by
  induction a with
  | nil => simp [depths]
  | cons x a ih => simp only [List.cons_append, depths, ih]; omega
theorem okSs_get {x : It} {p : Nat} : ∀ {its : List It}, its[p]? = some x → okS x = false → okSs its = false := fun {its} h ho => by
  have : its = its.take p ++ x :: its.drop (p + 1) := by
    obtain ⟨hlt, e⟩ := List.getElem?_eq_some_iff.1 h
    rw [← e, List.getElem_cons_drop, List.take_append_drop]
  rw [this, okSs_append]
  simp [okSs, ho]
mutual
theorem dep_le : ∀ x : It, dep x ≤ x.bulk
  | .mk true d sd its ss => by have := deps_le its; simp only [dep, It.bulk]; omega
  | .mk false d sd its ss => by simp [dep]
theorem deps_le : ∀ xs : List It, depths xs ≤ bulks xs
  | [] => by simp [depths]
  | x :: xs => by have := dep_le x; have := deps_le xs; simp only [depths, bulks]; omega
end

def SoundC (B : Nat) (args : List PR) (k : List PR → Prop) : Prop := ∃ it : It, args = [.a it.row] ∧ it.bulk ≤ B ∧ B ≤ 2 ^ 40 ∧ k [.s (.v (.int .i64 (if okS it then dep it else 0 : Nat))), .s (.v (.bool (okS it)))]

theorem soundI_step (B : Nat) (ih : Sound Try.prog 71 (SoundC B)) : Sound Try.prog 71 (SoundC (B + 1)) := by
  refine Sound.of_body tt_ok ent_ok Try.func71 rfl ?_
  rintro ar har Γ hΓ args k ⟨⟨l, d, sd, its, ss⟩, hargs, hb, hB, hk⟩
  obtain ⟨D, hD⟩ : ∃ D, D = d.map b8 := ⟨_, rfl⟩
  obtain ⟨I, hI⟩ : ∃ I, I = rowsOf its := ⟨_, rfl⟩
  obtain ⟨o, ho⟩ : ∃ o, o = (It.mk l d sd its ss).odd := ⟨_, rfl⟩
  have hrow : (It.mk l d sd its ss).row = [.c (.v (.bool l)), .c (.sl D sd), .c (.sl I ss)] := by rw [hD, hI]; rfl
  have hIl : ar.len I = (its.length : Int) := by rw [lenIs har, hI, rowsOf_length]
  have n1 : ar.nb true = false := by rw [har]; rfl
  have n2 : ar.nb false = true := by rw [har]; rfl
  have hodd : ∀ (Γ : Ctx) (d' : Nat) (k : List PR → Prop) (R : Prop), Γ = ctx Try.prog d' → k [.s (.v (.bool o))] → Γ.g 63 [.a [.c (.v (.bool l)), .c (.sl D sd), .c (.sl I ss)]] k ∨ R := fun Γ d' k R hΓ hk => call_by hΓ odd_sound ⟨.mk l d sd its ss, by rw [hrow], by rw [← ho]; exact hk⟩
  simp only [It.bulk] at hb
  have hil := bulks_len its
  rw [hrow] at hargs
  subst hargs
  have fail : okS (.mk l d sd its ss) = false → k [.s (.v (.int .i64 0)), .s (.v (.bool false))] := fun h => by
    rw [h] at hk; exact hk
  cases l with
  | false =>
    have ho' : o = decide (0 < its.length) := ho
    conv => cbv
    refine hodd _ _ _ _ hΓ ?_
    conv => cbv
    refine ⟨fun h => ?_, fun h => ?_⟩
    · have h : o = true := h
      rw [ho', decide_eq_true_eq] at h
      conv => cbv
      exact fail (by simp only [okS, decide_eq_false_iff_not]; omega)
    · have h : o = false := h
      rw [ho', decide_eq_false_iff_not] at h
      have h2 : okS (.mk false d sd its ss) = true := by simp only [okS, decide_eq_true_eq]; omega
      rw [h2] at hk
      conv => cbv
      refine onT n2 ?_
      conv => cbv
      exact hk
  | true =>
    have ho' : o = decide (0 < d.length) := ho
    conv => cbv
    refine hodd _ _ _ _ hΓ ?_
    conv => cbv
    refine ⟨fun h => ?_, fun h => ?_⟩
    · have h : o = true := h
      rw [ho', decide_eq_true_eq] at h
      conv => cbv
      exact fail (by simp only [okS, Bool.and_eq_false_iff, decide_eq_false_iff_not]; omega)
    · have h : o = false := h
      rw [ho', decide_eq_false_iff_not] at h
      have hd0 : d.length = 0 := by omega
      conv => cbv
      refine onF n1 ?_
      conv => cbv
      refine .inr ⟨{ q : Nat × Int × Int // q.1 ≤ its.length ∧ q.2.1 = q.1 ∧ q.2.2 = (depths (its.take q.1) : Nat) ∧ okSs (its.take q.1) = true }, fun q => ⟨mk 34 [(1, .s (.ptr 0 0)), (2, .s (.lit .i64 0)), (3, .s (.bl false)), (4, pint q.1.2.2), (15, .s (.p (.sl I ss))), (16, pint (ar.len I)), (17, pint q.1.2.1)], [.box [.c (.p (.v (.bool true))), .c (.p (.sl D sd)), .c (.p (.sl I ss))]]⟩,
        fun q => its.length - q.1.1, [], _, ⟨(0, 0, 0), Nat.zero_le _, rfl, rfl, rfl⟩, rfl, ?_, ?_⟩
      · conv => cbv
        simp
      · rintro ⟨⟨p, pi, acc⟩, hq⟩
        have hp : p ≤ its.length := hq.1
        have hpi : pi = (p : Int) := hq.2.1
        have hacc : acc = (depths (its.take p) : Nat) := hq.2.2.1
        have hoks : okSs (its.take p) = true := hq.2.2.2
        dsimp only
        conv => cbv
        refine ⟨fun h => ?_, fun h => ?_⟩
        · have g := cLt har (b := ar.len I) h
          have hlt : p < its.length := by omega
          obtain ⟨x, hx⟩ : ∃ x, its[p]? = some x := ⟨_, List.getElem?_eq_getElem hlt⟩
          have hxb := bulk_get hx
          obtain ⟨ok, hok⟩ : ∃ b, b = okS x := ⟨_, rfl⟩
          obtain ⟨dp, hdp⟩ : ∃ z : Int, z = (if okS x then dep x else 0 : Nat) := ⟨_, rfl⟩
          have htk : okSs (its.take (p + 1)) = (okSs (its.take p) && okS x) := by rw [take_succ_get hx, okSs_append]; simp [okSs]
          have htd : depths (its.take (p + 1)) = max (depths (its.take p)) (dep x) := by rw [take_succ_get hx, deps_append]; simp [depths]
          have hbad : ok = false → okS (.mk true d sd its ss) = false := fun h => by
            simp only [okS, okSs_get hx (by rw [← hok]; exact h), Bool.and_false]
          obtain ⟨l', d', sd', its', ss'⟩ := x
          obtain ⟨D', hD'⟩ : ∃ D', D' = d'.map b8 := ⟨_, rfl⟩
          obtain ⟨I', hI'⟩ : ∃ I', I' = rowsOf its' := ⟨_, rfl⟩
          have hrow' : (It.mk l' d' sd' its' ss').row = [.c (.v (.bool l')), .c (.sl D' sd'), .c (.sl I' ss')] := by rw [hD', hI']; rfl
          have rx : I[pi.toNat]? = some [.c (.v (.bool l')), .c (.sl D' sd'), .c (.sl I' ss')] := by rw [hI, hpi, Int.toNat_natCast, rowsOf_get hx, hrow']
          have hcall : ∀ (Γ : Ctx) (d'' : Nat) (k : List PR → Prop) (R : Prop), Γ = ctx Try.prog d'' → k [.s (.v (.int .i64 dp)), .s (.v (.bool ok))] → Γ.g 71 [.a [.c (.v (.bool l')), .c (.sl D' sd'), .c (.sl I' ss')]] k ∨ R := fun Γ d'' k R hΓ hk => call_by hΓ ih ⟨.mk l' d' sd' its' ss', by rw [hrow'], by omega, by omega, by rw [← hdp, ← hok]; exact hk⟩
          conv => cbv
          refine ⟨_, by omega, rx, rfl, ?_⟩
          conv => cbv
          refine hcall _ _ _ _ hΓ ?_
          conv => cbv
          refine ⟨fun h2 => ?_, fun h2 => ?_⟩
          · have g2 := nbT har h2
            conv => cbv
            exact fail (hbad g2)
          · have g2 := nbF har h2
            rw [← hok, g2, if_pos rfl] at hdp
            conv => cbv
            refine ⟨max acc dp, fun _ => rfl, ?_⟩
            obtain ⟨mx, hmx⟩ : ∃ mx, mx = max acc dp := ⟨_, rfl⟩
            rw [← hmx]
            conv => cbv
            refine ⟨⟨(p + 1, ar.ib .add .i64 pi 1, mx), hlt, iSucc har hpi (by omega), ?_, ?_⟩, ?_, ?_⟩
            · show mx = (depths (its.take (p + 1)) : Nat)
              rw [hmx, htd]; omega
            · show okSs (its.take (p + 1)) = true
              rw [htk, hoks, ← hok, g2]; rfl
            · dsimp only
              conv => cbv
              simp
            · show its.length - (p + 1) < its.length - p
              omega
        · have g := cNlt har (b := ar.len I) h
          have hge : p = its.length := by omega
          rw [hge, List.take_length] at hacc hoks
          have h2 : okS (.mk true d sd its ss) = true := by simp only [okS, hoks, Bool.and_true, decide_eq_true_eq]; exact hd0
          have hdl := deps_le its
          have e : ar.ib .add .i64 acc 1 = (dep (.mk true d sd its ss) : Nat) := by simp only [dep]; rw [iAdd har (by omega)]; omega
          rw [h2, if_pos rfl, ← e] at hk
          conv => cbv
          exact hk

theorem soundI_sound : ∀ B, Sound Try.prog 71 (SoundC B)
  | 0 => fun args k m W vs _ _ _ ⟨it, _, hb, _⟩ => by have := bulk_pos it; omega
  | B + 1 => soundI_step B (soundI_sound B)

def errOf (it : It) : Nat := if okS it then (if 1024 < dep it then 74 else if 16777216 < sz it then 2 else 0) else 78

theorem check_sound : Sound Try.prog 56 fun args k => ∃ it : It, args = [.a it.row] ∧ it.bulk ≤ 2 ^ 40 ∧ k [.s (.v (.int .i64 (errOf it)))] := by
  refine Sound.of_body tt_ok ent_ok Try.func56 rfl ?_
  rintro ar har Γ hΓ args k ⟨it, hargs, hb, hk⟩
  obtain ⟨ok, hok⟩ : ∃ b, b = okS it := ⟨_, rfl⟩
  obtain ⟨dp, hdp⟩ : ∃ z : Int, z = (if okS it then dep it else 0 : Nat) := ⟨_, rfl⟩
  obtain ⟨z, hz⟩ : ∃ z : Int, z = (sz it : Nat) := ⟨_, rfl⟩
  obtain ⟨e, he⟩ : ∃ z : Int, z = (errOf it : Nat) := ⟨_, rfl⟩
  rw [← he] at hk
  obtain ⟨A, hA⟩ : ∃ A, A = it.row := ⟨_, rfl⟩
  have hcall : ∀ (Γ : Ctx) (d'' : Nat) (k : List PR → Prop) (R : Prop), Γ = ctx Try.prog d'' → k [.s (.v (.int .i64 dp)), .s (.v (.bool ok))] → Γ.g 71 [.a A] k ∨ R := fun Γ d'' k R hΓ hk => call_by hΓ (soundI_sound (2 ^ 40)) ⟨it, by rw [hA], hb, by omega, by rw [← hdp, ← hok]; exact hk⟩
  have hcall2 : ∀ (Γ : Ctx) (d'' : Nat) (k : List PR → Prop) (R : Prop), Γ = ctx Try.prog d'' → k [.s (.v (.int .i64 z))] → Γ.g 57 [.a A] k ∨ R := fun Γ d'' k R hΓ hk => call_by hΓ (size_sound (2 ^ 40)) ⟨it, by rw [hA], hb, by omega, by rw [← hz]; exact hk⟩
  have hrow : ∃ (a : Bool) (b c : List (List PS) × List (List PS)), A = [.c (.v (.bool a)), .c (.sl b.1 b.2), .c (.sl c.1 c.2)] := by
    obtain ⟨l, d, sd, its, ss⟩ := it
    exact ⟨l, (_, _), (_, _), by rw [hA]; rfl⟩
  obtain ⟨a, ⟨b1, b2⟩, ⟨c1, c2⟩, hA2⟩ := hrow
  rw [← hA, hA2] at hargs
  rw [hA2] at hcall hcall2
  clear hA hA2
  subst hargs
  conv => cbv
  refine hcall _ _ _ _ hΓ ?_
  conv => cbv
  refine ⟨fun h => ?_, fun h => ?_⟩
  · have g := nbT har h
    have e1 : e = 78 := by rw [he, errOf, ← hok, g]; rfl
    rw [e1] at hk
    conv => cbv
    exact hk
  · have g := nbF har h
    rw [← hok, g, if_pos rfl] at hdp
    conv => cbv
    refine ⟨fun h => ?_, fun h => ?_⟩
    · have g2 := cGt har h
      have e1 : e = 74 := by rw [he, errOf, ← hok, g, if_pos rfl, if_pos (by omega)]; rfl
      rw [e1] at hk
      conv => cbv
      exact hk
    · have g2 := cNgt har h
      conv => cbv
      refine hcall2 _ _ _ _ hΓ ?_
      conv => cbv
      refine ⟨fun h => ?_, fun h => ?_⟩
      · have g3 := cGt har h
        have e1 : e = 2 := by rw [he, errOf, ← hok, g, if_pos rfl, if_neg (by omega), if_pos (by omega)]; rfl
        rw [e1] at hk
        conv => cbv
        exact hk
      · have g3 := cNgt har h
        have e1 : e = 0 := by rw [he, errOf, ← hok, g, if_pos rfl, if_neg (by omega), if_neg (by omega)]; rfl
        rw [e1] at hk
        conv => cbv
        exact hk

theorem row3 (it : It) : ∃ (a : Bool) (b c : List (List PS) × List (List PS)), it.row = [.c (.v (.bool a)), .c (.sl b.1 b.2), .c (.sl c.1 c.2)] := by
  obtain ⟨l, d, sd, its, ss⟩ := it
  exact ⟨l, (_, _), (_, _), rfl⟩

theorem rsize_sound : Sound Try.prog 43 fun args k => ∃ it : It, args = [.a it.row] ∧ it.bulk ≤ 2 ^ 40 ∧ k [.s (.v (.int .i64 (if errOf it = 0 then sz it else 0 : Nat))), .s (.v (.int .i64 (errOf it)))] := by
  refine Sound.of_body tt_ok ent_ok Try.func43 rfl ?_
  rintro ar har Γ hΓ args k ⟨it, hargs, hb, hk⟩
  obtain ⟨z, hz⟩ : ∃ z : Int, z = (sz it : Nat) := ⟨_, rfl⟩
  obtain ⟨e, he⟩ : ∃ z : Int, z = (errOf it : Nat) := ⟨_, rfl⟩
  obtain ⟨A, hA⟩ : ∃ A, A = it.row := ⟨_, rfl⟩
  have hcall : ∀ (Γ : Ctx) (d'' : Nat) (k : List PR → Prop) (R : Prop), Γ = ctx Try.prog d'' → k [.s (.v (.int .i64 e))] → Γ.g 56 [.a A] k ∨ R := fun Γ d'' k R hΓ hk => call_by hΓ check_sound ⟨it, by rw [hA], hb, by rw [← he]; exact hk⟩
  have hcall2 : ∀ (Γ : Ctx) (d'' : Nat) (k : List PR → Prop) (R : Prop), Γ = ctx Try.prog d'' → k [.s (.v (.int .i64 z))] → Γ.g 57 [.a A] k ∨ R := fun Γ d'' k R hΓ hk => call_by hΓ (size_sound (2 ^ 40)) ⟨it, by rw [hA], hb, by omega, by rw [← hz]; exact hk⟩
  obtain ⟨a, ⟨b1, b2⟩, ⟨c1, c2⟩, hA2⟩ := row3 it
  rw [← hA] at hA2
  rw [← hA, hA2] at hargs
  rw [hA2] at hcall hcall2
  clear hA hA2
  rw [← he] at hk
  subst hargs
  conv => cbv
  refine hcall _ _ _ _ hΓ ?_
  conv => cbv
  refine ⟨fun h => ?_, fun h => ?_⟩
  · have g := cNe har h
    rw [if_neg (by omega)] at hk
    conv => cbv
    exact hk
  · have g := cNne har h
    rw [if_pos (by omega), ← hz, g] at hk
    conv => cbv
    refine hcall2 _ _ _ _ hΓ ?_
    conv => cbv
    exact hk

def It.zero : It := .mk false [] [] [] []

theorem fitting_sound : Sound Try.prog 27 fun args k => ∃ it : It, args = [.a it.row] ∧ it.bulk ≤ 2 ^ 40 ∧ k [.a (if errOf it = 0 then it else .zero).row, .s (.v (.int .i64 (if errOf it = 0 then 0 else 2)))] := by
  refine Sound.of_body tt_ok ent_ok Try.func27 rfl ?_
  rintro ar har Γ hΓ args k ⟨it, hargs, hb, hk⟩
  obtain ⟨z, hz⟩ : ∃ z : Int, z = (if errOf it = 0 then sz it else 0 : Nat) := ⟨_, rfl⟩
  obtain ⟨e, he⟩ : ∃ z : Int, z = (errOf it : Nat) := ⟨_, rfl⟩
  obtain ⟨A, hA⟩ : ∃ A, A = it.row := ⟨_, rfl⟩
  have hcall : ∀ (Γ : Ctx) (d'' : Nat) (k : List PR → Prop) (R : Prop), Γ = ctx Try.prog d'' → k [.s (.v (.int .i64 z)), .s (.v (.int .i64 e))] → Γ.g 43 [.a A] k ∨ R := fun Γ d'' k R hΓ hk => call_by hΓ rsize_sound ⟨it, by rw [hA], hb, by rw [← hz, ← he]; exact hk⟩
  obtain ⟨a, ⟨b1, b2⟩, ⟨c1, c2⟩, hA2⟩ := row3 it
  rw [hA2] at hargs
  rw [hA, hA2] at hcall
  subst hargs
  conv => cbv
  refine hcall _ _ _ _ hΓ ?_
  conv => cbv
  refine ⟨fun h => ?_, fun h => ?_⟩
  · have g := cNe har h
    have hk2 : k [.a It.zero.row, .s (.v (.int .i64 2))] := by
      rw [if_neg (by omega), if_neg (by omega)] at hk; exact hk
    conv => cbv
    exact hk2
  · have g := cNne har h
    rw [if_pos (by omega), if_pos (by omega), hA2] at hk
    conv => cbv
    exact hk
end Go.Eng
namespace Go.Eng
open Go Go.Proofs
set_option maxRecDepth 100000
set_option maxHeartbeats 4000000
set_option linter.unusedVariables false

theorem rows_len (its : List It) : ∀ y ∈ rowsOf its, rlen y = 3 := fun y hy => by
  rw [rowsOf_map, List.mem_map] at hy
  obtain ⟨x, _, rfl⟩ := hy
  exact It.row_len x

def TwinC (f : Nat) (B : Nat) (args : List PR) (k : List PR → Prop) : Prop := ∃ (its : List It) (ss : List (List PS)), args = [.s (.sl (rowsOf its) ss)] ∧ bulks its ≤ B ∧ B ≤ 2 ^ 40 ∧ k [.s (.sl (rowsOf (strips its)) [])]

theorem twinI_step (B : Nat) (ih : ∀ B', B' < B → Sound Try.prog 42 (TwinC 0 B')) : Sound Try.prog 42 (TwinC 0 B) := by
  refine Sound.of_body tt_ok ent_ok Try.func42 rfl ?_
  rintro ar har Γ hΓ args k ⟨its, ss, hargs, hb, hB, hk⟩
  obtain ⟨I, hI⟩ : ∃ I, I = rowsOf its := ⟨_, rfl⟩
  have hIl : ar.len I = (its.length : Int) := by rw [lenIs har, hI, rowsOf_length]
  have hil := bulks_len its
  rw [← hI] at hargs
  subst hargs
  conv => cbv
  refine .inr ⟨{ q : Nat × Int × List (List PS) // q.1 ≤ its.length ∧ q.2.1 = q.1 ∧ q.2.2 = rowsOf (strips (its.take q.1)) },
    fun q => ⟨mk 26 [(2, .s .nil), (3, .s (.own 0)), (6, .s (.p (.sl I ss))), (7, pint (ar.len I)), (8, pint q.1.2.1)], [.arr q.1.2.2 27 3 56 true]⟩,
    fun q => its.length - q.1.1, [.slot 3 27], _, ⟨(0, 0, []), Nat.zero_le _, rfl, rfl⟩, rfl, ?_, ?_⟩
  · conv => cbv
    simp
  · rintro ⟨⟨p, pi, Z⟩, hq⟩
    have hp : p ≤ its.length := hq.1
    have hpi : pi = (p : Int) := hq.2.1
    have hZ : Z = rowsOf (strips (its.take p)) := hq.2.2
    dsimp only
    conv => cbv
    refine ⟨fun h => ?_, fun h => ?_⟩
    · have g := cLt har (b := ar.len I) h
      have hlt : p < its.length := by omega
      obtain ⟨x, hx⟩ : ∃ x, its[p]? = some x := ⟨_, List.getElem?_eq_getElem hlt⟩
      have hxb := bulk_get hx
      obtain ⟨l', d', sd', its', ss'⟩ := x
      have hxb2 : 1 + d'.length + bulks its' ≤ bulks its := hxb
      obtain ⟨D', hD'⟩ : ∃ D', D' = d'.map b8 := ⟨_, rfl⟩
      obtain ⟨I', hI'⟩ : ∃ I', I' = rowsOf its' := ⟨_, rfl⟩
      obtain ⟨I2, hI2⟩ : ∃ I', I' = rowsOf (strips its') := ⟨_, rfl⟩
      have hrow' : (It.mk l' d' sd' its' ss').row = [.c (.v (.bool l')), .c (.sl D' sd'), .c (.sl I' ss')] := by rw [hD', hI']; rfl
      have rx : I[pi.toNat]? = some [.c (.v (.bool l')), .c (.sl D' sd'), .c (.sl I' ss')] := by rw [hI, hpi, Int.toNat_natCast, rowsOf_get hx, hrow']
      have hZ2 : ar.app Z [[.c (.v (.bool l')), .c (.sl D' []), .c (.sl I2 [])]] = rowsOf (strips (its.take (p + 1))) := by
        rw [appIs har, hZ, take_succ_get hx, strips_append, rowsOf_append, hD', hI2]; rfl
      have hZl : Z.length = p := by rw [hZ, rowsOf_length, strips_map, List.length_map, List.length_take]; omega
      have callC : ∀ (Γ : Ctx) (d'' : Nat) (k : List PR → Prop), Γ = ctx Try.prog d'' → k [.s (.sl D' [])] → Γ.g 41 [.s (.sl D' sd')] k := fun Γ d'' k hΓ hk => call_by' hΓ clone_sound ⟨d', sd', by rw [hD'], by omega, by rw [← hD']; exact hk⟩
      have callT : ∀ (Γ : Ctx) (d'' : Nat) (k : List PR → Prop), Γ = ctx Try.prog d'' → k [.s (.sl I2 [])] → Γ.g 42 [.s (.sl I' ss')] k := fun Γ d'' k hΓ hk => call_by' hΓ (ih (bulks its') (by omega)) ⟨its', ss', by rw [hI'], Nat.le_refl _, by omega, by rw [← hI2]; exact hk⟩
      have s1 : (Z.length + 1) * 56 ≤ 140737488355328 ∧ ∀ y ∈ [[PS.c (.v (.bool l')), .c (.sl D' []), .c (.sl I2 [])]], rlen y = 3 := ⟨by omega, by simp [rlen, PS.len]⟩
      conv => cbv
      refine ⟨_, by omega, rx, rfl, ?_⟩
      conv => cbv
      refine ⟨by rw [har]; kernel_rfl, ?_⟩
      refine callC _ _ _ hΓ ?_
      conv => cbv
      refine callT _ _ _ hΓ ?_
      conv => cbv
      refine ⟨fun _ => s1, ?_⟩
      refine ⟨⟨(p + 1, ar.ib .add .i64 pi 1, ar.app Z [[.c (.v (.bool l')), .c (.sl D' []), .c (.sl I2 [])]]), hlt, iSucc har hpi (by omega), hZ2⟩, ?_, ?_⟩
      · dsimp only
        conv => cbv
        simp
      · show its.length - (p + 1) < its.length - p
        omega
    · have g := cNlt har (b := ar.len I) h
      have hge : p = its.length := by omega
      rw [hge, List.take_length] at hZ
      rw [← hZ] at hk
      conv => cbv
      exact hk

theorem twinI_sound : ∀ B, Sound Try.prog 42 (TwinC 0 B) := fun B => by
  induction B using Nat.strongRecOn with
  | _ B ih => exact twinI_step B ih

theorem list_sound : Sound Try.prog 26 fun args k => ∃ (its : List It) (ss : List (List PS)), args = [.s (.sl (rowsOf its) ss)] ∧ bulks its ≤ 2 ^ 40 ∧ k [.a (It.lst (strips its)).row] := by
  refine Sound.of_body tt_ok ent_ok Try.func26 rfl ?_
  rintro ar har Γ hΓ args k ⟨its, ss, hargs, hb, hk⟩
  obtain ⟨I, hI⟩ : ∃ I, I = rowsOf its := ⟨_, rfl⟩
  obtain ⟨J, hJ⟩ : ∃ J, J = rowsOf (strips its) := ⟨_, rfl⟩
  have hr : (It.lst (strips its)).row = [.c (.v (.bool true)), .c (.sl [] []), .c (.sl J [])] := by rw [hJ]; rfl
  rw [hr] at hk
  have callT : ∀ (Γ : Ctx) (d'' : Nat) (k : List PR → Prop) (R : Prop), Γ = ctx Try.prog d'' → k [.s (.sl J [])] → Γ.g 42 [.s (.sl I ss)] k ∨ R := fun Γ d'' k R hΓ hk => call_by hΓ (twinI_sound (2 ^ 40)) ⟨its, ss, by rw [hI], hb, by omega, by rw [← hJ]; exact hk⟩
  rw [← hI] at hargs
  subst hargs
  conv => cbv
  refine callT _ _ _ _ hΓ ?_
  conv => cbv
  exact hk
end Go.Eng
namespace Go.Eng
open Go Go.Proofs
set_option maxRecDepth 100000
set_option maxHeartbeats 4000000
set_option linter.unusedVariables false

/-- What kind says. -/
def It.ke (l : Bool) (it : It) : Int := if it.odd then 78 else if it.l = l then 0 else 75

def It.getList (it : It) : List It × Int := if it.ke true = 0 then (strips it.its, 0) else ([], it.ke true)
def fixR (n : Nat) (e : Int) (d : List Int) : List Int × Int := if e = 0 then (if d.length = n then (d, 0) else ([], 77)) else ([], e)
def It.getFixed (n : Nat) (it : It) : List Int × Int := fixR n (it.ke false) it.d

theorem getList_sound : Sound Try.prog 34 fun args k => ∃ (it : It), args = [.a it.row] ∧ it.bulk ≤ 2 ^ 40 ∧ k [.s (.sl (rowsOf it.getList.1) []), .s (.v (.int .i64 it.getList.2))] := by
  refine Sound.of_body tt_ok ent_ok Try.func34 rfl ?_
  rintro ar har Γ hΓ args k ⟨⟨l, d, sd, its, ss⟩, hargs, hb, hk⟩
  obtain ⟨e, he⟩ : ∃ e, e = (It.mk l d sd its ss).ke true := ⟨_, rfl⟩
  obtain ⟨D, hD⟩ : ∃ D, D = d.map b8 := ⟨_, rfl⟩
  obtain ⟨I, hI⟩ : ∃ I, I = rowsOf its := ⟨_, rfl⟩
  obtain ⟨J, hJ⟩ : ∃ J, J = rowsOf (strips its) := ⟨_, rfl⟩
  have hrow : (It.mk l d sd its ss).row = [.c (.v (.bool l)), .c (.sl D sd), .c (.sl I ss)] := by rw [hD, hI]; rfl
  have hb' : bulks its ≤ 2 ^ 40 := by simp only [It.bulk] at hb; omega
  have hkk : (e ≠ 0 → k [.s (.sl [] []), .s (.v (.int .i64 e))]) ∧ (e = 0 → k [.s (.sl J []), .s (.v (.int .i64 0))]) := by
    refine ⟨fun h => ?_, fun h => ?_⟩
    · simp only [It.getList, ← he, if_neg h] at hk; exact hk
    · simp only [It.getList, ← he, if_pos h] at hk; rw [hJ]; exact hk
  have callK : ∀ (Γ : Ctx) (d' : Nat) (k : List PR → Prop) (R : Prop), Γ = ctx Try.prog d' → k [.s (.v (.int .i64 e))] → Γ.g 49 [.a [.c (.v (.bool l)), .c (.sl D sd), .c (.sl I ss)], .s (.v (.bool true))] k ∨ R := fun Γ d' k R hΓ hk => call_by hΓ kind_sound ⟨.mk l d sd its ss, true, by rw [hrow], by rw [he] at hk; exact hk⟩
  have callT : ∀ (Γ : Ctx) (d'' : Nat) (k : List PR → Prop) (R : Prop), Γ = ctx Try.prog d'' → k [.s (.sl J [])] → Γ.g 42 [.s (.sl I ss)] k ∨ R := fun Γ d'' k R hΓ hk => call_by hΓ (twinI_sound (2 ^ 40)) ⟨its, ss, by rw [hI], hb', by omega, by rw [← hJ]; exact hk⟩
  rw [hrow] at hargs
  clear hk he hD hI hJ hrow hb hb'
  subst hargs
  conv => cbv
  refine callK _ _ _ _ hΓ ?_
  conv => cbv
  refine ⟨fun h1 => ?_, fun h1 => ?_⟩
  · have h2 := cNe har (b := 0) h1
    conv => cbv
    exact hkk.1 h2
  · have h2 := cNne har (b := 0) h1
    conv => cbv
    refine callT _ _ _ _ hΓ ?_
    conv => cbv
    exact hkk.2 h2

theorem getFixed_sound : Sound Try.prog 50 fun args k => ∃ (it : It) (n : Nat), args = [.a it.row, .s (.v (.int .i64 (n : Int)))] ∧ it.bulk ≤ 2 ^ 40 ∧ k [.s (.sl ((it.getFixed n).1.map b8) []), .s (.v (.int .i64 (it.getFixed n).2))] := by
  refine Sound.of_body tt_ok ent_ok Try.func50 rfl ?_
  rintro ar har Γ hΓ args k ⟨⟨l, d, sd, its, ss⟩, n, hargs, hb, hk⟩
  obtain ⟨e, he⟩ : ∃ e, e = (It.mk l d sd its ss).ke false := ⟨_, rfl⟩
  obtain ⟨D, hD⟩ : ∃ D, D = d.map b8 := ⟨_, rfl⟩
  obtain ⟨I, hI⟩ : ∃ I, I = rowsOf its := ⟨_, rfl⟩
  obtain ⟨m, hm⟩ : ∃ m : Int, m = (n : Int) := ⟨_, rfl⟩
  have hrow : (It.mk l d sd its ss).row = [.c (.v (.bool l)), .c (.sl D sd), .c (.sl I ss)] := by rw [hD, hI]; rfl
  have hd : d.length ≤ 2 ^ 40 := by simp only [It.bulk] at hb; omega
  have hDl : ar.len D = (d.length : Int) := by rw [lenIs har, hD, List.length_map]
  have hm0 : ar.cb .lss m 0 = false := dNlt har (by omega)
  have hk : k [.s (.sl ((fixR n e d).1.map b8) []), .s (.v (.int .i64 (fixR n e d).2))] := by rw [he]; exact hk
  have hkk : (e ≠ 0 → k [.s (.sl [] []), .s (.v (.int .i64 e))]) ∧ (e = 0 → ar.len D ≠ m → k [.s (.sl [] []), .s (.v (.int .i64 77))]) ∧ (e = 0 → ar.len D = m → k [.s (.sl D []), .s (.v (.int .i64 0))]) := by
    refine ⟨fun h => ?_, fun h h2 => ?_, fun h h2 => ?_⟩
    · simp only [fixR, if_neg h] at hk; exact hk
    · rw [hDl, hm] at h2
      have h3 : ¬ d.length = n := by omega
      simp only [fixR, if_pos h, if_neg h3] at hk; exact hk
    · rw [hDl, hm] at h2
      have h3 : d.length = n := by omega
      simp only [fixR, if_pos h, if_pos h3] at hk; rw [hD]; exact hk
  have callK : ∀ (Γ : Ctx) (d' : Nat) (k : List PR → Prop) (R : Prop), Γ = ctx Try.prog d' → k [.s (.v (.int .i64 e))] → Γ.g 49 [.a [.c (.v (.bool l)), .c (.sl D sd), .c (.sl I ss)], .s (.v (.bool false))] k ∨ R := fun Γ d' k R hΓ hk => call_by hΓ kind_sound ⟨.mk l d sd its ss, false, by rw [hrow], by rw [he] at hk; exact hk⟩
  have callC : ∀ (Γ : Ctx) (d'' : Nat) (k : List PR → Prop) (R : Prop), Γ = ctx Try.prog d'' → k [.s (.sl D [])] → Γ.g 41 [.s (.sl D sd)] k ∨ R := fun Γ d'' k R hΓ hk => call_by hΓ clone_sound ⟨d, sd, by rw [hD], hd, by rw [← hD]; exact hk⟩
  rw [hrow, ← hm] at hargs
  clear hk he hD hI hrow hb hd hm hDl
  subst hargs
  conv => cbv
  refine onF hm0 ?_
  conv => cbv
  refine callK _ _ _ _ hΓ ?_
  conv => cbv
  refine ⟨fun h1 => ?_, fun h1 => ?_⟩
  · have h2 := cNe har (b := 0) h1
    conv => cbv
    exact hkk.1 h2
  · have h2 := cNne har (b := 0) h1
    conv => cbv
    refine ⟨fun h3 => ?_, fun h3 => ?_⟩
    · have h4 := cNe har (a := ar.len D) (b := m) h3
      conv => cbv
      exact hkk.2.1 h2 h4
    · have h4 := cNne har (a := ar.len D) (b := m) h3
      conv => cbv
      refine callC _ _ _ _ hΓ ?_
      conv => cbv
      exact hkk.2.2 h2 h4
end Go.Eng
namespace Go.Eng
open Go Go.Proofs
set_option maxRecDepth 100000
set_option maxHeartbeats 4000000
set_option linter.unusedVariables false

def ksIts (ks : List (List Int)) : List It := ks.map It.txt
def entIt (a : List Int) (ks : List (List Int)) : It := It.lst [It.txt a, It.lst (ksIts ks)]
def Ent.it (e : Ent) : It := entIt e.a e.ks
def esIts (es : List Ent) : List It := es.map Ent.it

theorem strip_txt (d : List Int) : (It.txt d).strip = It.txt d := rfl
theorem strips_ks : ∀ ks : List (List Int), strips (ksIts ks) = ksIts ks
  | [] => rfl
  | k :: ks => by simp only [ksIts, List.map_cons, strips, strip_txt] at *; rw [show strips (ks.map It.txt) = ks.map It.txt from strips_ks ks]
theorem strip_lst (its : List It) : (It.lst its).strip = It.lst (strips its) := rfl
theorem strip_ent (a : List Int) (ks : List (List Int)) : (entIt a ks).strip = entIt a ks := by
  simp only [entIt, strip_lst, strips, strip_txt, strips_ks]
theorem strips_es : ∀ es : List Ent, strips (esIts es) = esIts es
  | [] => rfl
  | e :: es => by
    show e.it.strip :: strips (esIts es) = _
    rw [strips_es es, Ent.it, strip_ent]; rfl

def ksB (ks : List (List Int)) : Nat := bulks (ksIts ks)
def Ent.b (e : Ent) : Nat := e.it.bulk
theorem ent_bulk (a : List Int) (ks : List (List Int)) : (entIt a ks).bulk = 3 + a.length + ksB ks := by
  simp only [entIt, It.lst, It.txt, It.bulk, bulks, ksB, List.length_nil]; omega

theorem bytes_cells (ar : Ar) (har : ar = arS) (w : List Int) : ar.cells (u8s w) = w.map b8 := by
  rw [cellsIs har, u8s, List.map_map]; rfl

theorem accItem_sound : Sound Try.prog 7 fun args k => ∃ (es : List Ent) (s : List (List PS)), args = [.s (.sl (es.map Ent.row) s)] ∧ (∀ e ∈ es, e.a.length = 20 ∧ ∀ w ∈ e.ks, w.length = 32) ∧ bulks (esIts es) < 2 ^ 40 ∧
    k [.a (if errOf (It.lst (esIts es)) = 0 then It.lst (esIts es) else .zero).row, .s (.v (.int .i64 (if errOf (It.lst (esIts es)) = 0 then 0 else 2)))] := by
  refine Sound.of_body tt_ok ent_ok Try.func7 rfl ?_
  rintro ar har Γ hΓ args k ⟨es, s, hargs, hlen, hb, hk⟩
  obtain ⟨X, hX⟩ : ∃ X, X = es.map Ent.row := ⟨_, rfl⟩
  have hXl : ar.len X = (es.length : Int) := by rw [lenIs har, hX, List.length_map]
  have callX : ∀ (W s : List (List PS)) (w : List Int) (C : List (List PS)) (Γ : Ctx) (d' : Nat) (k : List PR → Prop) (R : Prop), Γ = ctx Try.prog d' → C = W → W = w.map b8 → w.length ≤ 2 ^ 40 → k [.a [.c (.v (.bool false)), .c (.sl W []), .c (.sl [] [])]] → Γ.g 25 [.s (.sl C s)] k ∨ R := fun W s w C Γ d' k R hΓ hc hw hl hk => call_by hΓ text_sound ⟨w, s, by rw [hc, hw], hl, by rw [hw] at hk; exact hk⟩
  have callL : ∀ (J : List (List PS)) (its : List It) (Γ : Ctx) (d' : Nat) (k : List PR → Prop) (R : Prop), Γ = ctx Try.prog d' → strips its = its → J = rowsOf its → bulks its ≤ 2 ^ 40 → k [.a [.c (.v (.bool true)), .c (.sl [] []), .c (.sl J [])]] → Γ.g 26 [.s (.sl J [])] k ∨ R := fun J its Γ d' k R hΓ hs hJ hl hk => call_by hΓ list_sound ⟨its, [], by rw [hJ], hl, by rw [hs]; rw [hJ] at hk; exact hk⟩
  have hel : es.length ≤ bulks (esIts es) := by
    have h1 := bulks_len (esIts es)
    have h2 : (esIts es).length = es.length := List.length_map ..
    omega
  rw [← hX] at hargs
  subst hargs
  conv => cbv
  refine .inr ⟨{ q : Nat × Int × List (List PS) // q.1 ≤ es.length ∧ q.2.1 = q.1 ∧ q.2.2 = rowsOf (esIts (es.take q.1)) },
    fun q => ⟨mk 45 [(2, .s (.ptr 0 0)), (3, .s (.lit .i64 0)), (4, .s (.own 1)), (10, .s (.p (.sl X s))), (11, pint (ar.len X)), (12, pint q.1.2.1)], [.box [.c (.bl false), .c .nil, .c .nil], .arr q.1.2.2 27 3 56 true]⟩,
    fun q => es.length - q.1.1, [.slot 4 27], _, ⟨(0, 0, []), Nat.zero_le _, rfl, rfl⟩, rfl, ?_, ?_⟩
  · conv => cbv
    simp
  · rintro ⟨⟨p, pi, Z⟩, hq⟩
    have hp : p ≤ es.length := hq.1
    have hpi : pi = (p : Int) := hq.2.1
    have hZ : Z = rowsOf (esIts (es.take p)) := hq.2.2
    dsimp only
    conv => cbv
    refine ⟨fun h => ?_, fun h => ?_⟩
    · have g := cLt har (b := ar.len X) h
      have hlt : p < es.length := by omega
      obtain ⟨e, hx⟩ : ∃ e, es[p]? = some e := ⟨_, List.getElem?_eq_getElem hlt⟩
      obtain ⟨ea, ek, es1⟩ := e
      obtain ⟨xv, hxv⟩ : ∃ xv, xv = u8s ea := ⟨_, rfl⟩
      obtain ⟨xl, hxl⟩ : ∃ xl, xl = ek.map key := ⟨_, rfl⟩
      have rx : X[pi.toNat]? = some [.r 20 xv, .c (.sl xl es1)] := by rw [hX, hpi]; simp [hx, Ent.row, hxv, hxl]
      conv => cbv
      refine ⟨_, by omega, rx, rfl, ?_⟩
      conv => cbv
      have hE := hlen _ (List.mem_of_getElem? hx)
      have hE1 : ea.length = 20 := hE.1
      have hE2 : ∀ w ∈ ek, w.length = 32 := hE.2
      have hEb : (entIt ea ek).bulk ≤ bulks (esIts es) := bulk_get (its := esIts es) (p := p) (by simp only [esIts, List.getElem?_map, hx]; rfl)
      rw [ent_bulk] at hEb
      have hkb : ek.length ≤ ksB ek := by have := bulks_len (ksIts ek); rw [ksIts, List.length_map] at this; exact this
      have hxll : ar.len xl = (ek.length : Int) := by rw [lenIs har, hxl, List.length_map]
      refine .inr ⟨{ q : Nat × Int × List (List PS) // q.1 ≤ ek.length ∧ q.2.1 = q.1 ∧ q.2.2 = rowsOf (ksIts (ek.take q.1)) },
        fun q => ⟨mk 45 [(2, .s (.ptr 0 0)), (3, .s (.lit .i64 0)), (4, .s (.own 1)), (6, .s (.ptr 2 0)), (7, .s (.own 3)), (10, .s (.p (.sl X s))), (11, pint (ar.len X)), (12, pint pi), (17, .s (.p (.sl xl es1))), (18, pint (ar.len xl)), (19, pint q.1.2.1)], [.box [.c (.bl false), .c .nil, .c .nil], .arr Z 27 3 56 true, .box [.r 20 xv, .c (.p (.sl xl es1))], .arr q.1.2.2 27 3 56 true]⟩,
        fun q => ek.length - q.1.1, [.slot 7 27], _, ⟨(0, 0, []), Nat.zero_le _, rfl, rfl⟩, rfl, ?_, ?_⟩
      · conv => cbv
        simp
      · rintro ⟨⟨r, ri, Y⟩, hr⟩
        have hrp : r ≤ ek.length := hr.1
        have hri : ri = (r : Int) := hr.2.1
        have hY : Y = rowsOf (ksIts (ek.take r)) := hr.2.2
        dsimp only
        conv => cbv
        refine ⟨fun h => ?_, fun h => ?_⟩
        · have g' := cLt har (b := ar.len xl) h
          have hrl : r < ek.length := by omega
          obtain ⟨w, hw⟩ : ∃ w, ek[r]? = some w := ⟨_, List.getElem?_eq_getElem hrl⟩
          have hw32 : w.length = 32 := hE2 w (List.mem_of_getElem? hw)
          obtain ⟨wv, hwv⟩ : ∃ wv, wv = u8s w := ⟨_, rfl⟩
          obtain ⟨W, hW⟩ : ∃ W, W = w.map b8 := ⟨_, rfl⟩
          have hcw : ar.cells wv = W := by rw [hwv, hW, bytes_cells ar har]
          have rw1 : xl[ri.toNat]? = some [.r 32 wv] := by rw [hxl, hri]; simp [hw, key, hwv]
          conv => cbv
          refine ⟨_, by omega, rw1, rfl, ?_⟩
          conv => cbv
          refine callX W [] w _ _ _ _ _ hΓ hcw hW (by omega) ?_
          conv => cbv
          have s1 : (Y.length + 1) * 56 ≤ 140737488355328 ∧ ∀ y ∈ [[PS.c (.v (.bool false)), .c (.sl W []), .c (.sl [] [])]], rlen y = 3 := ⟨by rw [hY, rowsOf_length, ksIts, List.length_map, List.length_take]; omega, by simp [rlen, PS.len]⟩
          have hY2 : ar.app Y [[PS.c (.v (.bool false)), .c (.sl W []), .c (.sl [] [])]] = rowsOf (ksIts (ek.take (r + 1))) := by
            rw [appIs har, hY, take_succ_get hw, ksIts, ksIts, List.map_append, rowsOf_append, hW]; rfl
          refine ⟨fun _ => s1, ?_⟩
          refine ⟨⟨(r + 1, ar.ib .add .i64 ri 1, ar.app Y [[PS.c (.v (.bool false)), .c (.sl W []), .c (.sl [] [])]]), hrl, iSucc har hri (by omega), hY2⟩, ?_, ?_⟩
          · dsimp only
            conv => cbv
            simp
          · show ek.length - (r + 1) < ek.length - r
            omega
        · have g' := cNlt har (b := ar.len xl) h
          have hre : r = ek.length := by omega
          rw [hre, List.take_length] at hY
          obtain ⟨V, hV⟩ : ∃ W, W = ea.map b8 := ⟨_, rfl⟩
          have hcv : ar.cells xv = V := by rw [hxv, hV, bytes_cells ar har]
          obtain ⟨G, hG⟩ : ∃ G, G = rowsOf [It.txt ea, It.lst (ksIts ek)] := ⟨_, rfl⟩
          have hG2 : G = [[.c (.v (.bool false)), .c (.sl V []), .c (.sl [] [])], [.c (.v (.bool true)), .c (.sl [] []), .c (.sl Y [])]] := by rw [hG, hV, hY]; rfl
          have hG3 : strips [It.txt ea, It.lst (ksIts ek)] = [It.txt ea, It.lst (ksIts ek)] := by simp only [strips, strip_txt, strip_lst, strips_ks]
          have hG4 : bulks [It.txt ea, It.lst (ksIts ek)] ≤ 2 ^ 40 := by
            have e := ent_bulk ea ek
            rw [entIt, It.lst, It.bulk, List.length_nil] at e
            omega
          have callG := callL G [It.txt ea, It.lst (ksIts ek)]
          rw [hG2] at callG
          have s1 : (Z.length + 1) * 56 ≤ 140737488355328 ∧ ∀ y ∈ [[PS.c (.v (.bool true)), .c (.sl [] []), .c (.sl [[.c (.v (.bool false)), .c (.sl V []), .c (.sl [] [])], [.c (.v (.bool true)), .c (.sl [] []), .c (.sl Y [])]] [])]], rlen y = 3 := ⟨by
            rw [hZ, rowsOf_length, esIts, List.length_map, List.length_take]
            omega, by simp [rlen, PS.len]⟩
          have hZ2 : ar.app Z [[PS.c (.v (.bool true)), .c (.sl [] []), .c (.sl [[.c (.v (.bool false)), .c (.sl V []), .c (.sl [] [])], [.c (.v (.bool true)), .c (.sl [] []), .c (.sl Y [])]] [])]] = rowsOf (esIts (es.take (p + 1))) := by
            rw [appIs har, hZ, take_succ_get hx, esIts, esIts, List.map_append, rowsOf_append, ← hG2, hG]; rfl
          conv => cbv
          refine callX V [] ea _ _ _ _ _ hΓ hcv hV (by omega) ?_
          conv => cbv
          refine callL Y (ksIts ek) _ _ _ _ hΓ (strips_ks ek) hY (by show ksB ek ≤ _; omega) ?_
          conv => cbv
          refine callG _ _ _ _ hΓ hG3 (hG2.symm.trans hG) hG4 ?_
          conv => cbv
          refine ⟨fun _ => s1, ?_⟩
          refine ⟨⟨(p + 1, ar.ib .add .i64 pi 1, ar.app Z [[PS.c (.v (.bool true)), .c (.sl [] []), .c (.sl [[.c (.v (.bool false)), .c (.sl V []), .c (.sl [] [])], [.c (.v (.bool true)), .c (.sl [] []), .c (.sl Y [])]] [])]]), hlt, iSucc har hpi (by omega), hZ2⟩, ?_, ?_⟩
          · dsimp only
            conv => cbv
            simp
          · show es.length - (p + 1) < es.length - p
            omega
    · have g := cNlt har (b := ar.len X) h
      have hpe : p = es.length := by omega
      rw [hpe, List.take_length] at hZ
      obtain ⟨F, hF⟩ : ∃ F, F = (if errOf (It.lst (esIts es)) = 0 then It.lst (esIts es) else .zero).row := ⟨_, rfl⟩
      obtain ⟨fe, hfe⟩ : ∃ fe : Int, fe = (if errOf (It.lst (esIts es)) = 0 then 0 else 2) := ⟨_, rfl⟩
      have callF : ∀ (Γ : Ctx) (d' : Nat) (k : List PR → Prop) (R : Prop), Γ = ctx Try.prog d' → k [.a F, .s (.v (.int .i64 fe))] → Γ.g 27 [.a [.c (.v (.bool true)), .c (.sl [] []), .c (.sl Z [])]] k ∨ R := fun Γ d' k R hΓ hk => call_by hΓ fitting_sound ⟨It.lst (esIts es), by rw [hZ]; rfl, by simp only [It.lst, It.bulk, List.length_nil]; omega, by rw [hF, hfe] at hk; exact hk⟩
      rw [← hF, ← hfe] at hk
      obtain ⟨a, ⟨b1, b2⟩, ⟨c1, c2⟩, hA2⟩ := row3 (if errOf (It.lst (esIts es)) = 0 then It.lst (esIts es) else .zero)
      rw [← hF] at hA2
      subst hA2
      conv => cbv
      refine callL Z (esIts es) _ _ _ _ hΓ (strips_es es) hZ (by omega) ?_
      conv => cbv
      refine callF _ _ _ _ hΓ ?_
      conv => cbv
      exact hk
end Go.Eng
