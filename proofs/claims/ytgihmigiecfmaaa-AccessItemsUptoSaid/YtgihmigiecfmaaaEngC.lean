/-
  The evaluator: what each operation asks, and what it goes on with. No memory.
-/
import Derived.Test.YtgihmigiecfmaaaEngT
namespace Go.Eng
open Go Go.RowKit

def TTok (P : Program) : Prop := ∀ t, (tt t).d = .bad ∨ TIok P t (tt t)

/-- The zero row as a box holds it: a nil slice is nil. -/
def zrow : List PS → List Seg
  | [] => []
  | .c (.sl [] []) :: l => .c .nil :: zrow l
  | .c (.v (.int k n)) :: l => .c (.lit k n) :: zrow l
  | .c (.v (.bool b)) :: l => .c (.bl b) :: zrow l
  | .c x :: l => .c (.p x) :: zrow l
  | .r n ws :: l => .r n ws :: zrow l

theorem RepG.zrow {E : Env} : ∀ {row : List PS} {ws : List Value}, zvals row = some ws → RepG E (zrow row) ws
  | [], _, h => by cases h; rfl
  | .c (.v x) :: l, _, h => by
    simp only [zvals] at h
    split at h
    · rename_i ho
      simp only [Option.map_eq_some_iff] at h
      obtain ⟨q, hq, rfl⟩ := h
      cases x <;> first | exact ⟨_, q, rfl, rfl, RepG.zrow hq⟩ | exact ⟨_, q, rfl, ⟨rfl, ho⟩, RepG.zrow hq⟩
    · cases h
  | .c (.sl [] []) :: l, _, h => by
    simp only [zvals, Option.map_eq_some_iff] at h
    obtain ⟨q, hq, rfl⟩ := h
    exact ⟨_, q, rfl, rfl, RepG.zrow hq⟩
  | .c (.sl (_ :: _) _) :: l, _, h => by cases h
  | .c (.sl [] (_ :: _)) :: l, _, h => by cases h
  | .c (.ow _ _ _ _) :: l, _, h => by cases h
  | .c (.on _ _ _ _ _) :: l, _, h => by cases h
  | .r n us :: l, _, h => by
    simp only [zvals] at h
    split at h
    · rename_i ho
      simp only [Option.map_eq_some_iff] at h
      obtain ⟨q, hq, rfl⟩ := h
      exact ⟨ho.1, fun u hu => by have := List.all_eq_true.1 ho.2 u hu; exact this, q, rfl, RepG.zrow hq⟩
    · cases h

theorem RepL.zero {m : Mem} : ∀ {row : List PS} {ws : List Value}, zvals row = some ws → RepL m row ws
  | [], _, h => by cases h; rfl
  | .c (.v x) :: l, _, h => by
    simp only [zvals] at h
    split at h
    · rename_i ho
      simp only [Option.map_eq_some_iff] at h
      obtain ⟨q, hq, rfl⟩ := h
      exact ⟨x, q, rfl, by rw [RepV]; exact ⟨rfl, ho⟩, RepL.zero hq⟩
    · cases h
  | .c (.sl [] []) :: l, _, h => by
    simp only [zvals, Option.map_eq_some_iff] at h
    obtain ⟨q, hq, rfl⟩ := h
    exact ⟨_, q, rfl, RepV.nil m, RepL.zero hq⟩
  | .c (.sl (_ :: _) _) :: l, _, h => by cases h
  | .c (.sl [] (_ :: _)) :: l, _, h => by cases h
  | .c (.ow _ _ _ _) :: l, _, h => by cases h
  | .c (.on _ _ _ _ _) :: l, _, h => by cases h
  | .r n us :: l, _, h => by
    simp only [zvals] at h
    split at h
    · rename_i ho
      simp only [Option.map_eq_some_iff] at h
      obtain ⟨q, hq, rfl⟩ := h
      exact ⟨ho.1, fun u hu => by have := List.all_eq_true.1 ho.2 u hu; exact this, q, rfl, RepL.zero hq⟩
    · cases h

structure St where
  fr : List SV
  ob : List Ob

/-- A plain value as a cell. -/
def plain : Value → CV
  | .slice none 0 0 => .nil
  | .int k n => .lit k n
  | .bool b => .bl b
  | x => .p (.v x)

theorem RepK.plain {E : Env} {x : Value} (h : x.oneCell' = true) : RepK E (plain x) x := by
  unfold Eng.plain
  split
  · rfl
  · rfl
  · rfl
  · exact ⟨rfl, h⟩

/-- Plain values cut into the pieces of a row (the type's zero row shows how). -/
def shape : List PS → List Value → Option (List Seg)
  | [], [] => some []
  | .c _ :: l, x :: xs => if x.oneCell' then (shape l xs).map (.c (plain x) :: ·) else none
  | .r n _ :: l, xs => if n ≤ xs.length ∧ (xs.take n).all (·.oneCell') then (shape l (xs.drop n)).map (.r n (xs.take n) :: ·) else none
  | _, _ => none

theorem RepG.shape {E : Env} : ∀ {row : List PS} {ws : List Value} {r : List Seg}, shape row ws = some r → RepG E r ws
  | [], [], _, h => by cases h; rfl
  | [], _ :: _, _, h => by cases h
  | .c _ :: _, [], _, h => by cases h
  | .c _ :: l, x :: xs, _, h => by
    simp only [Eng.shape] at h
    split at h
    · rename_i ho
      simp only [Option.map_eq_some_iff] at h
      obtain ⟨q, hq, rfl⟩ := h
      exact ⟨x, xs, rfl, RepK.plain ho, RepG.shape hq⟩
    · cases h
  | .r n _ :: l, xs, _, h => by
    simp only [Eng.shape] at h
    split at h
    · rename_i ho
      simp only [Option.map_eq_some_iff] at h
      obtain ⟨q, hq, rfl⟩ := h
      exact ⟨by simp [ho.1], fun u hu => by have := List.all_eq_true.1 ho.2 u hu; exact this, xs.drop n, by simp, RepG.shape hq⟩
    · cases h

def constSV (t : TypeId) : Value → SV
  | .agg cs => match shape (tt t).zero cs.toList with | some r => .a r | none => .un
  | .tuple _ => .un
  | x => .s (plain x)

def St.ev (st : St) (t : TypeId) : Operand → SV
  | .tmp i => match st.fr[i]? with | some v => v | none => .un
  | .const v => constSV t v
  | .global g => match grow g with | some row => .s (.ipt row 0) | none => .un
  | .func f => .s (.p (.v (.func (.func f) #[] #[])))

/-! ### Pieces of a pure row -/
def ptake : List PS → Nat → Option (List PS)
  | _, 0 => some []
  | [], _ + 1 => none
  | .c x :: rest, n + 1 => (ptake rest n).map (.c x :: ·)
  | .r m ws :: rest, n + 1 => if m ≤ n + 1 then (ptake rest (n + 1 - m)).map (.r m ws :: ·) else some [.r (n + 1) (ws.take (n + 1))]

def pdrop : List PS → Nat → Option (List PS)
  | row, 0 => some row
  | [], _ + 1 => none
  | .c _ :: rest, n + 1 => pdrop rest n
  | .r m ws :: rest, n + 1 => if m ≤ n + 1 then pdrop rest (n + 1 - m) else some (.r (m - (n + 1)) (ws.drop (n + 1)) :: rest)

theorem RepC.ptake {m : Mem} : ∀ {row row' : List PS} {b o n : Nat}, RepC m row b o → ptake row n = some row' → RepC m row' b o ∧ rlen row' = n
  | _, _, _, _, 0, _, h => by simp only [Eng.ptake, Option.some.injEq] at h; subst h; simp [RepC, rlen]
  | [], _, _, _, n + 1, _, h => by cases h
  | .c x :: rest, _, b, o, n + 1, r, h => by
    simp only [Eng.ptake, Option.map_eq_some_iff] at h
    obtain ⟨l, hl, rfl⟩ := h
    simp only [RepC] at r ⊢
    have := RepC.ptake r.2 hl
    exact ⟨⟨r.1, this.1⟩, by simp [rlen, this.2, PS.len]; omega⟩
  | .r k us :: rest, _, b, o, n + 1, r, h => by
    simp only [Eng.ptake] at h
    split at h
    · rename_i hle
      simp only [Option.map_eq_some_iff] at h
      obtain ⟨l, hl, rfl⟩ := h
      simp only [RepC] at r ⊢
      have := RepC.ptake r.2 hl
      exact ⟨⟨r.1, this.1⟩, by simp [rlen, this.2, PS.len]; omega⟩
    · rename_i hgt
      cases h
      simp only [RepC, RepP, and_true] at r ⊢
      refine ⟨⟨by rw [List.length_take]; omega, fun j w hj => ?_⟩, by simp [rlen, PS.len]⟩
      rw [List.getElem?_take] at hj
      split at hj
      · exact r.1.2 j w hj
      · cases hj

theorem RepC.pdrop {m : Mem} : ∀ {row row' : List PS} {b o n : Nat}, RepC m row b o → pdrop row n = some row' → RepC m row' b (o + n)
  | _, _, _, _, 0, r, h => by simp only [Eng.pdrop, Option.some.injEq] at h; subst h; simpa using r
  | [], _, _, _, n + 1, _, h => by cases h
  | .c x :: rest, _, b, o, n + 1, r, h => by
    simp only [Eng.pdrop] at h
    simp only [RepC, PS.len] at r
    have := RepC.pdrop r.2 h
    rw [show o + (n + 1) = o + 1 + n by omega]; exact this
  | .r k us :: rest, _, b, o, n + 1, r, h => by
    simp only [Eng.pdrop] at h
    split at h
    · rename_i hle
      simp only [RepC, PS.len] at r
      have := RepC.pdrop r.2 h
      rw [show o + (n + 1) = o + k + (n + 1 - k) by omega]; exact this
    · rename_i hgt
      cases h
      simp only [RepC, RepP, PS.len] at r ⊢
      refine ⟨⟨by rw [List.length_drop]; omega, fun j w hj => ?_⟩, by rw [show o + (n + 1) + (k - (n + 1)) = o + k by omega]; exact r.2⟩
      rw [List.getElem?_drop] at hj
      rw [show o + (n + 1) + j = o + (n + 1 + j) by omega]
      exact r.1.2 _ w hj

def psub (row : List PS) (off n : Nat) : Option (List PS) := (pdrop row off).bind (ptake · n)

theorem RepC.psub {m : Mem} {row row' : List PS} {b o off n : Nat} (r : RepC m row b o) (h : psub row off n = some row') : RepC m row' b (o + off) ∧ rlen row' = n := by
  simp only [Eng.psub, Option.bind_eq_some_iff] at h
  obtain ⟨l, h1, h2⟩ := h
  exact (r.pdrop h1).ptake h2

def cell1 (w : Value) : List PS := [.c (.v w)]

mutual
/-- What an own slice is to him who only reads it. -/
def frzV : PV → PV
  | .ow xs _ _ _ => .sl xs []
  | .on xs s _ _ _ => .sl (frzX xs) (frzX s)
  | .v x => .v x
  | .sl xs s => .sl xs s
def frzL : List PS → List PS
  | [] => []
  | .c x :: l => .c (frzV x) :: frzL l
  | .r n ws :: l => .r n ws :: frzL l
def frzX : List (List PS) → List (List PS)
  | [] => []
  | x :: l => frzL x :: frzX l
end

/-- What is reckoned on plain data: a variable in every evaluation, so that the evaluator does not open it. -/
structure Ar where
  ib : BinOp → IntKind → Int → Int → Int
  cb : BinOp → Int → Int → Bool
  bb : BinOp → Bool → Bool → Bool
  nb : Bool → Bool
  mux : Bool → Bool → Bool → Bool
  ub : UnOp → IntKind → Int → Int
  cv : IntKind → Int → Int
  len : List (List PS) → Int
  app : List (List PS) → List (List PS) → List (List PS)
  mid : List (List PS) → Nat → Nat → List (List PS)
  cells : List Value → List (List PS)
  part : List Value → Nat → Nat → List Value
  set : List Value → Nat → Value → List Value
  setx : List (List PS) → Nat → List PS → List (List PS)
  rep : Nat → List PS → List (List PS)
  eqv : List Value → List Value → Bool
  eqi : Int → Int → Bool
  and : Bool → Bool → Bool
  nat : Int → Nat
  min : Int → Int → Int
  cpy : List (List PS) → List (List PS) → List (List PS)
  frm : List (List PS) → Nat → List (List PS)
  cked : List Oper → List Nat → Bool
  xop : Nat → List Int → Int
  cpw : List Value → Nat → List (List PS) → List Value
  cpn : List (List PS) → Nat → Nat → Int
  clw : List Value → Nat → Value → List Value
  frz : List (List PS) → List (List PS)

/-- The n elements of sz cells each that lie in a row from off on. -/
def chunksFrom (row : List PS) (off sz : Nat) : Nat → Option (List (List PS))
  | 0 => some []
  | n + 1 => (psub row off sz).bind fun x => (chunksFrom row (off + sz) sz n).map (x :: ·)

/-- The n cells from off on, if they lie in one piece. -/
def cellsAt (ar : Ar) : List PS → Nat → Nat → Option (List (List PS))
  | [], _, _ => none
  | .r m ws :: rest, off, n => if off + n ≤ m then (if off = 0 ∧ n = m then some (ar.cells ws) else some (ar.cells (ar.part ws off n))) else if m ≤ off then cellsAt ar rest (off - m) n else none
  | .c _ :: rest, off, n => match off with
    | 0 => none
    | o + 1 => cellsAt ar rest o n

def chunks (ar : Ar) (row : List PS) (off n sz : Nat) : Option (List (List PS)) :=
  match sz with
  | 1 => match cellsAt ar row off n with
    | some xs => some xs
    | none => chunksFrom row off 1 n
  | sz => chunksFrom row off sz n

theorem RepC.chunksFrom {m : Mem} {row : List PS} {b o : Nat} (r : RepC m row b o) : ∀ {n off sz : Nat} {xs : List (List PS)}, chunksFrom row off sz n = some xs → RepE m xs b (o + off) sz ∧ xs.length = n
  | 0, _, _, _, h => by simp only [Eng.chunksFrom, Option.some.injEq] at h; subst h; simp [RepE]
  | n + 1, off, sz, _, h => by
    simp only [Eng.chunksFrom, Option.bind_eq_some_iff, Option.map_eq_some_iff] at h
    obtain ⟨x, hx, l, hl, rfl⟩ := h
    have h1 := r.psub hx
    have h2 := RepC.chunksFrom r hl
    simp only [RepE]
    refine ⟨⟨h1.2, h1.1, ?_⟩, by simp [h2.2]⟩
    rw [show o + off + sz = o + (off + sz) by omega]; exact h2.1

theorem RepE.cells1 {m : Mem} : ∀ {ws : List Value} {b o : Nat}, (∀ (j : Nat) (w : Value), ws[j]? = some w → m b (o + j) = some w ∧ w.oneCell' = true) → RepE m (ws.map cell1) b o 1
  | [], _, _, _ => by simp [RepE]
  | w :: ws, b, o, h => by
    have h0 := h 0 w (by simp)
    simp only [List.map_cons, RepE, cell1, rlen, PS.len, RepC, RepP, RepV, and_true]
    refine ⟨trivial, ⟨w, by simpa using h0.1, rfl, h0.2⟩, RepE.cells1 fun j u hj => ?_⟩
    rw [show o + 1 + j = o + (j + 1) by omega]
    exact h (j + 1) u (by simpa using hj)

def intB (op : BinOp) (k : IntKind) (x y : Int) : Int :=
  match op with
  | .add => k.wrap (x + y)
  | .sub => k.wrap (x - y)
  | .mul => k.wrap (x * y)
  | .quo => k.wrap (x.tdiv y)
  | .rem => x.tmod y
  | .and => k.wrap (BitVec.ofInt k.bits x &&& BitVec.ofInt k.bits y).toNat
  | .or => k.wrap (BitVec.ofInt k.bits x ||| BitVec.ofInt k.bits y).toNat
  | .xor => k.wrap (BitVec.ofInt k.bits x ^^^ BitVec.ofInt k.bits y).toNat
  | .andNot => k.wrap (BitVec.ofInt k.bits x &&& ~~~BitVec.ofInt k.bits y).toNat
  | .shl => k.wrap (x * 2 ^ min y.toNat k.bits)
  | .shr => x.fdiv (2 ^ min y.toNat k.bits)
  | _ => 0

def intC (op : BinOp) (x y : Int) : Bool :=
  match op with
  | .eql => x == y
  | .neq => x != y
  | .lss => x < y
  | .leq => x ≤ y
  | .gtr => x > y
  | .geq => x ≥ y
  | _ => false

def intU (op : UnOp) (k : IntKind) (x : Int) : Int :=
  match op with
  | .neg => k.wrap (0 - x)
  | .xor => k.wrap (BitVec.ofInt k.bits (if k.signed then -1 else k.max) ^^^ BitVec.ofInt k.bits x).toNat
  | _ => 0

def intEq : Value → Value → Bool
  | .int k a, .int k' b => k == k' && a == b
  | .bool a, .bool b => a == b
  | _, _ => false

def eqVals : List Value → List Value → Bool
  | [], [] => true
  | a :: l, b :: m => intEq a b && eqVals l m
  | _, _ => false

/-- Functions that the model stands in for: 1, 2: the difference and the borrow; 3, 4: the sum and the carry. -/
def extOp : Nat → List Int → Int
  | 1, [x, y, b] => ((x.toNat + 18446744073709551616 - y.toNat - b.toNat) % 18446744073709551616 : Nat)
  | 2, [x, y, b] => ((if x.toNat < y.toNat + b.toNat then 1 else 0 : Nat) : Int)
  | 3, [x, y, b] => ((x.toNat + y.toNat + b.toNat) % 18446744073709551616 : Nat)
  | 4, [x, y, b] => ((x.toNat + y.toNat + b.toNat) / 18446744073709551616 : Nat)
  | _, _ => 0

/-- The plain value in a row of one cell. -/
def celOf : List PS → Value
  | .c (.v w) :: _ => w
  | _ => .bool false
def valsOf (ys : List (List PS)) : List Value := ys.map celOf

/-- The reckoning itself. -/
def arS : Ar where
  ib := intB
  cb := intC
  bb op a b := match op with | .eql => a == b | _ => !(a == b)
  nb b := !b
  mux c a b := bif c then a else b
  ub := intU
  cv k n := k.wrap n
  len xs := (xs.length : Int)
  app xs ys := xs ++ ys
  mid xs lo hi := (xs.take hi).drop lo
  cells ws := ws.map cell1
  part ws off n := (ws.drop off).take n
  set ws i w := ws.set i w
  setx xs i x := xs.set i x
  rep n x := List.replicate n x
  eqv := eqVals
  eqi a b := a == b
  and a b := a && b
  nat := Int.toNat
  min a b := if a ≤ b then a else b
  cpy xs ys := ys.take xs.length ++ xs.drop ys.length
  frm xs n := xs.drop n
  cked := chk
  xop := extOp
  cpw ws lo ys := ws.take lo ++ ((valsOf ys).take (ws.length - lo) ++ ws.drop (lo + min ys.length (ws.length - lo)))
  cpn ys n lo := (min ys.length (n - lo) : Nat)
  clw ws lo z := ws.take lo ++ List.replicate (ws.length - lo) z
  frz := frzX

theorem RepC.cellsAt {m : Mem} {b n : Nat} {xs : List (List PS)} : ∀ {row : List PS} {o off : Nat}, RepC m row b o → cellsAt arS row off n = some xs → RepE m xs b (o + off) 1 ∧ xs.length = n
  | [], _, _, _, h => by cases h
  | .r k ws :: rest, o, off, r, h => by
    simp only [RepC, RepP, PS.len] at r
    obtain ⟨r, r2⟩ := r
    unfold Eng.cellsAt at h
    split at h
    · split at h
      · rename_i h0
        cases h
        obtain ⟨rfl, rfl⟩ := h0
        exact ⟨RepE.cells1 fun j w hj => r.2 j w hj, by simp [arS, r.1]⟩
      · rename_i h0 _
        cases h
        refine ⟨RepE.cells1 fun j w hj => ?_, by simp [arS]; omega⟩
        simp only [arS] at hj
        rw [List.getElem?_take] at hj
        split at hj
        · rw [List.getElem?_drop] at hj
          rw [show o + off + j = o + (off + j) by omega]
          exact r.2 _ w hj
        · cases hj
    · split at h
      · have := RepC.cellsAt r2 h
        rw [show o + k + (off - k) = o + off by omega] at this
        exact this
      · cases h
  | .c x :: rest, o, off, r, h => by
    simp only [RepC, PS.len] at r
    unfold Eng.cellsAt at h
    split at h
    · cases h
    · rename_i o'
      have := RepC.cellsAt r.2 h
      rw [show o + 1 + o' = o + (o' + 1) by omega] at this
      exact this

theorem RepC.chunks {m : Mem} {row : List PS} {b o off n sz : Nat} {xs : List (List PS)} (r : RepC m row b o) (h : chunks arS row off n sz = some xs) : RepE m xs b (o + off) sz ∧ xs.length = n := by
  unfold Eng.chunks at h
  split at h
  · split at h
    · rename_i ys hy
      cases h
      exact RepC.cellsAt r hy
    · exact RepC.chunksFrom r h
  · exact RepC.chunksFrom r h

/-! ### A value used as a whole: what it names is frozen -/
def CV.use (ar : Ar) (ob : List Ob) : CV → Option (PV × List Ob)
  | .p x => some (x, ob)
  | .lit k n => some (.v (.int k n), ob)
  | .bl b => some (.v (.bool b), ob)
  | .nil => some (.sl [] [], ob)
  | .own k => match ob[k]? with
    | some (.arr xs e sz by_ _) => some (.sl xs [], ob.set k (.arr xs e sz by_ false))
    | _ => none
  | .bsl k off n sz => match ob[k]? with
    | some (.box row) => match pures row with
      | some ps => match chunks ar ps off n sz with | some xs => some (.sl xs [], ob.set k (.fbox ps)) | none => none
      | none => none
    | some (.fbox ps) => match chunks ar ps off n sz with | some xs => some (.sl xs [], ob) | none => none
    | _ => none
  | _ => none

def useRow (ar : Ar) (ob : List Ob) : List Seg → Option (List PS × List Ob)
  | [] => some ([], ob)
  | .c x :: l => match x.use ar ob with
    | some (y, ob') => match useRow ar ob' l with | some (ps, ob'') => some (.c y :: ps, ob'') | none => none
    | none => none
  | .r n ws :: l => match useRow ar ob l with | some (ps, ob') => some (.r n ws :: ps, ob') | none => none

def SV.use (ar : Ar) (ob : List Ob) : SV → Option (PR × List Ob)
  | .s c => match c.use ar ob with | some (x, ob') => some (.s x, ob') | none => none
  | .a row => match useRow ar ob row with | some (ps, ob') => some (.a ps, ob') | none => none
  | _ => none

def useAll (ar : Ar) (ob : List Ob) : List SV → Option (List PR × List Ob)
  | [] => some ([], ob)
  | x :: l => match x.use ar ob with
    | some (y, ob') => match useAll ar ob' l with | some (ys, ob'') => some (y :: ys, ob'') | none => none
    | none => none

/-! ### What is lent: read by a call, kept as it is -/
def CV.lend0 (ar : Ar) (ob : List Ob) : CV → Option PV
  | .p x => some x
  | .lit k n => some (.v (.int k n))
  | .bl b => some (.v (.bool b))
  | .nil => some (.sl [] [])
  | .own k => match ob[k]? with
    | some (.arr xs _ _ _ _) => some (.sl xs [])
    | some (.tre xs s _ _ _ _) => some (.sl (ar.frz xs) (ar.frz s))
    | _ => none
  | _ => none

def lendRow0 (ar : Ar) (ob : List Ob) : List Seg → Option (List PS)
  | [] => some []
  | .c x :: l => match x.lend0 ar ob with
    | some y => match lendRow0 ar ob l with | some ps => some (.c y :: ps) | none => none
    | none => none
  | .r n ws :: l => match lendRow0 ar ob l with | some ps => some (.r n ws :: ps) | none => none

def CV.lend (ar : Ar) (ob : List Ob) : CV → Option PV
  | .bsl k off n sz => match ob[k]? with
    | some (.box row) => match lendRow0 ar ob row with
      | some ps => match chunks ar ps off n sz with | some xs => some (.sl xs []) | none => none
      | none => none
    | some (.fbox ps) => match chunks ar ps off n sz with | some xs => some (.sl xs []) | none => none
    | _ => none
  | c => c.lend0 ar ob

def lendRow (ar : Ar) (ob : List Ob) : List Seg → Option (List PS)
  | [] => some []
  | .c x :: l => match x.lend ar ob with
    | some y => match lendRow ar ob l with | some ps => some (.c y :: ps) | none => none
    | none => none
  | .r n ws :: l => match lendRow ar ob l with | some ps => some (.r n ws :: ps) | none => none

def SV.lend (ar : Ar) (ob : List Ob) : SV → Option PR
  | .s c => match c.lend ar ob with | some x => some (.s x) | none => none
  | .a row => match lendRow ar ob row with | some ps => some (.a ps) | none => none
  | _ => none

def lendAll (ar : Ar) (ob : List Ob) : List SV → Option (List PR)
  | [] => some []
  | x :: l => match x.lend ar ob with
    | some y => match lendAll ar ob l with | some ys => some (y :: ys) | none => none
    | none => none

/-! ### What a call hands back: own slices among it become objects -/
def adV (n : Nat) : PV → CV × List Ob
  | .ow xs e sz by_ => (.own n, [.arr xs e sz by_ true])
  | .on xs s e sz by_ => (.own n, [.tre xs s e sz by_ none])
  | x => (.p x, [])

def adL (n : Nat) : List PS → List Seg × List Ob
  | [] => ([], [])
  | .c x :: l => match adV n x with
    | (c, o) => match adL (n + o.length) l with | (r, o') => (.c c :: r, o ++ o')
  | .r k ws :: l => match adL n l with | (r, o) => (.r k ws :: r, o)

def adR (n : Nat) : PR → TR × List Ob
  | .s x => match adV n x with | (c, o) => (.s c, o)
  | .a row => (.a (segs row), [])
  | .ao row => match adL n row with | (r, o) => (.a r, o)

def adRs (n : Nat) : List PR → List TR × List Ob
  | [] => ([], [])
  | r :: l => match adR n r with
    | (t, o) => match adRs (n + o.length) l with | (ts, o') => (t :: ts, o ++ o')

def TR.sv : TR → SV
  | .s c => .s c
  | .a r => .a r

def adRes (n : Nat) : List PR → SV × List Ob
  | [r] => match adR n r with | (t, o) => (t.sv, o)
  | rs => match adRs n rs with | (l, o) => (.t l, o)

end Go.Eng
