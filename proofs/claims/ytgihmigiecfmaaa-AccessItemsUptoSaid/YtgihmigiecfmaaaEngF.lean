/-
  The operations, go on: numbers, boxes, stores, indexes, lengths.
-/
import Derived.Test.YtgihmigiecfmaaaEngE
namespace Go.Eng
open Go Go.RowKit

/-! ### Numbers -/
def intOf : CV → Option (IntKind × Int × Bool)
  | .lit k n => some (k, n, true)
  | .p (.v (.int k n)) => some (k, n, false)
  | _ => none

theorem intOf_spec {E : Env} {c : CV} {w : Value} {k : IntKind} {n : Int} {l : Bool} (h : RepK E c w) (hb : intOf c = some (k, n, l)) : w = .int k n := by
  unfold intOf at hb
  split at hb
  · cases hb; exact h
  · cases hb; exact h.1
  · cases hb

def arith (ar : Ar) (op : BinOp) (k : IntKind) (a b : Int) (l : Bool) : SV :=
  match l with
  | true => .s (.lit k (intB op k a b))
  | false => .s (.p (.v (.int k (ar.ib op k a b))))

def compr (ar : Ar) (op : BinOp) (a b : Int) (l : Bool) : SV :=
  match l with
  | true => .s (.bl (intC op a b))
  | false => .s (.p (.v (.bool (ar.cb op a b))))

inductive OpKind where
  | shift | div | plain | cmp

def opKind : BinOp → OpKind
  | .shl | .shr => .shift
  | .quo | .rem => .div
  | .add | .sub | .mul | .and | .or | .xor | .andNot => .plain
  | _ => .cmp

def binI (ar : Ar) (op : BinOp) (k : IntKind) (a : Int) (la : Bool) (k' : IntKind) (b : Int) (lb : Bool) (K : SV → Prop) : Prop :=
  match opKind op with
  | .shift => match lb with
    | true => if 0 ≤ b then K (arith ar op k a b (la && lb)) else False
    | false => (True → 0 ≤ b) ∧ K (arith ar op k a b (la && lb))
  | .div => if k = k' then (match lb with
    | true => if b = 0 then False else K (arith ar op k a b (la && lb))
    | false => (True → b ≠ 0) ∧ K (arith ar op k a b (la && lb))) else False
  | .plain => if k = k' then K (arith ar op k a b (la && lb)) else False
  | .cmp => if k = k' then K (compr ar op a b (la && lb)) else False

theorem arith_spec {E : Env} {op : BinOp} {k : IntKind} {a b : Int} {l : Bool} : RepS E (arith arS op k a b l) (.int k (intB op k a b)) := by
  cases l
  · exact ⟨rfl, rfl⟩
  · rfl

theorem compr_spec {E : Env} {op : BinOp} {a b : Int} {l : Bool} : RepS E (compr arS op a b l) (.bool (intC op a b)) := by
  cases l
  · exact ⟨rfl, rfl⟩
  · rfl

theorem binI_spec {P : Program} {xT : TypeId} {op : BinOp} {k k' : IntKind} {a b : Int} {la lb : Bool} {K : SV → Prop} (h : binI arS op k a la k' b lb K) :
    ∃ sv v, K sv ∧ (∀ W, (binOp op xT (.int k a) (.int k' b)).run P W = .ok v W) ∧ ∀ E, RepS E sv v := by
  unfold binI at h
  split at h
  · rename_i hk
    have fin : 0 ≤ b → K (arith arS op k a b (la && lb)) → ∃ sv v, K sv ∧ (∀ W, (binOp op xT (.int k a) (.int k' b)).run P W = .ok v W) ∧ ∀ E, RepS E sv v := fun hb hK => by
      refine ⟨_, _, hK, fun W => ?_, fun E => arith_spec⟩
      cases op <;> first | (cases hk; done) | simp [binOp, Op.shift, show ¬ b < 0 by omega, intB]
    split at h
    · split at h
      · exact fin (by assumption) h
      · exact h.elim
    · exact fin (h.1 trivial) h.2
  · rename_i hk
    split at h
    · rename_i hkk
      subst hkk
      have fin : b ≠ 0 → K (arith arS op k a b (la && lb)) → ∃ sv v, K sv ∧ (∀ W, (binOp op xT (.int k a) (.int k b)).run P W = .ok v W) ∧ ∀ E, RepS E sv v := fun hb hK => by
        refine ⟨_, _, hK, fun W => ?_, fun E => arith_spec⟩
        cases op <;> first | (cases hk; done) | simp [binOp, Op.intDiv, hb, intB]
      split at h
      · split at h
        · exact h.elim
        · exact fin (by assumption) h
      · exact fin (h.1 trivial) h.2
    · exact h.elim
  · rename_i hk
    split at h
    · rename_i hkk
      subst hkk
      refine ⟨_, _, h, fun W => ?_, fun E => arith_spec⟩
      cases op <;> first | (cases hk; done) | simp [binOp, Op.intArith, Op.intBits, intB]
    · exact h.elim
  · rename_i hk
    split at h
    · rename_i hkk
      subst hkk
      refine ⟨_, _, h, fun W => ?_, fun E => compr_spec⟩
      cases op <;> first | (cases hk; done) | simp [binOp, Op.intCmp, intC]
    · exact h.elim

def binB (ar : Ar) (op : BinOp) (x y : CV) : Option SV :=
  match op, boolOf x, boolOf y with
  | .eql, some a, some b => some (.s (.p (.v (.bool (ar.bb .eql a b)))))
  | .neq, some a, some b => some (.s (.p (.v (.bool (ar.bb .neq a b)))))
  | _, _, _ => none

def binIP (ar : Ar) (op : BinOp) (x y : SV) (K : SV → Prop) : Prop :=
  match x with
  | .s cx => match y with
    | .s cy => match intOf cx with
      | some (k, a, la) => match intOf cy with
        | some (k', b, lb) => binI ar op k a la k' b lb K
        | none => False
      | none => False
    | _ => False
  | _ => False

def binBP (ar : Ar) (op : BinOp) (x y : SV) (K : SV → Prop) : Prop :=
  match x with
  | .s cx => match y with
    | .s cy => match binB ar op cx cy with
      | some sv => K sv
      | none => False
    | _ => False
  | _ => False

theorem binIP_spec {P : Program} {E : Env} {st : St} {a : Act} {o : Oper} {op : BinOp} {xT yT : TypeId} {x y : Operand} {K : SV → Prop} (hF : RepF E st.fr a.tmps.toList) (ho : o.op = .binOp op xT x y yT)
    (h : binIP arS op (st.ev xT x) (st.ev xT y) K) : ∃ sv v, K sv ∧ (∀ W, (execOp a.eval o).run P W = .ok (.value v) W) ∧ RepS E sv v := by
  have hx := RepS.ev hF xT x
  have hy := RepS.ev hF xT y
  generalize st.ev xT x = sx at *
  generalize st.ev xT y = sy at *
  unfold binIP at h
  split at h
  · rename_i cx
    split at h
    · rename_i cy
      split at h
      · rename_i k n la hi
        split at h
        · rename_i k' n' lb hj
          have e1 := intOf_spec hx hi
          have e2 := intOf_spec hy hj
          obtain ⟨sv, v, hK, hr, hs⟩ := binI_spec (P := P) (xT := xT) h
          refine ⟨sv, v, hK, fun W => ?_, hs E⟩
          unfold execOp
          simp only [ho, e1, e2]
          have hg : (eqGuard op xT x y (.int k n) (.int k' n')).run P W = .ok () W := by
            unfold eqGuard
            cases op <;> simp
          simp [hg, hr W]
        · exact h.elim
      · exact h.elim
    · exact h.elim
  · exact h.elim

theorem binBP_spec {P : Program} {E : Env} {st : St} {a : Act} {o : Oper} {op : BinOp} {xT yT : TypeId} {x y : Operand} {K : SV → Prop} (hT : TTok P) (hd : (tt xT).d = .bool) (hF : RepF E st.fr a.tmps.toList) (ho : o.op = .binOp op xT x y yT)
    (h : binBP arS op (st.ev xT x) (st.ev xT y) K) : ∃ sv v, K sv ∧ (∀ W, (execOp a.eval o).run P W = .ok (.value v) W) ∧ RepS E sv v := by
  have hx := RepS.ev hF xT x
  have hy := RepS.ev hF xT y
  generalize st.ev xT x = sx at *
  generalize st.ev xT y = sy at *
  unfold binBP at h
  split at h
  · rename_i cx
    split at h
    · rename_i cy
      split at h
      · rename_i sv hb
        unfold binB at hb
        have fin : ∀ p q, a.eval x = .bool p → a.eval y = .bool q → (op = .eql ∨ op = .neq) → ∀ W, (execOp a.eval o).run P W = .ok (.value (.bool (arS.bb op p q))) W := fun p q e1 e2 hop W => by
          obtain ⟨d, hd1, hd2⟩ := (hT.of_ok (t := xT) (by rw [hd]; rfl)).desc
          rw [hd] at hd2
          cases d <;> try exact False.elim hd2
          unfold execOp
          simp only [ho, e1, e2]
          have hg : (eqGuard op xT x y (.bool p) (.bool q)).run P W = .ok () W := by
            unfold eqGuard
            rcases hop with rfl | rfl <;> simp
          rcases hop with rfl | rfl
          · simp [hg, run_eql_bool W xT p q hd1, arS]
          · simp [hg, run_neq_bool W xT p q hd1, arS]
        split at hb
        · rename_i p q h1 h2
          cases hb
          exact ⟨_, _, h, fin p q (boolOf_spec hx h1) (boolOf_spec hy h2) (.inl rfl), rfl, rfl⟩
        · rename_i p q h1 h2
          cases hb
          exact ⟨_, _, h, fin p q (boolOf_spec hx h1) (boolOf_spec hy h2) (.inr rfl), rfl, rfl⟩
        · cases hb
      · exact h.elim
    · exact h.elim
  · exact h.elim

end Go.Eng
