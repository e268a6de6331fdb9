/-
  Equality of arrays, literals of structs and arrays, slices of slices and arrays.
-/
import Derived.Test.YtgihmigiecfmaaaEngK2
import Derived.ChangeKeysEq
import Derived.Great.FillDense
import Derived.Laws.Pointers
namespace Go.Eng
open Go Go.RowKit

/-! ### Equality of arrays of numbers -/
def ints (k : IntKind) (ws : List Value) : Prop := ∀ w ∈ ws, ∃ n, w = .int k n

theorem run_eqItems_int {P : Program} (w : World) (d : Nat) {e : TypeId} {k : IntKind} (he : P.underlying e = some (.int k)) (c : Nat) (hc : c = 1) (xs ys : Array Value) (hx : ints k xs.toList) (hy : ints k ys.toList) (hl : xs.size = ys.size) :
    ∀ (m j : Nat), j + m = xs.size → (Op.eqItems (d + 1) e c xs ys (List.range' j m)).run P w = .ok (eqVals (xs.toList.drop j) (ys.toList.drop j)) w
  | 0, j, hj => by
    rw [List.drop_of_length_le (show xs.size ≤ j by omega), List.drop_of_length_le (show ys.size ≤ j by omega)]
    simp [Op.eqItems, eqVals]
  | m + 1, j, hj => by
    subst hc
    have hjx : j < xs.size := by omega
    have hjy : j < ys.size := by omega
    obtain ⟨a, ha⟩ := hx xs[j] (by simp)
    obtain ⟨b, hb⟩ := hy ys[j] (by simp)
    have hp : P.plainKey e = true := by simp [Program.plainKey, he]
    have p1 := run_part_plain (P := P) (w := w) hp (xs := xs) (off := j) (v := .int k a) (by rw [Array.getElem?_eq_getElem hjx, ha])
    have p2 := run_part_plain (P := P) (w := w) hp (xs := ys) (off := j) (v := .int k b) (by rw [Array.getElem?_eq_getElem hjy, hb])
    have p3 := run_equalIn_int (P := P) w d e k k a b he
    have ih := run_eqItems_int w d he 1 rfl xs ys hx hy hl m (j + 1) (by omega)
    have d1 : xs.toList.drop j = .int k a :: xs.toList.drop (j + 1) := by rw [List.drop_eq_getElem_cons (by simpa using hjx)]; simp [ha]
    have d2 : ys.toList.drop j = .int k b :: ys.toList.drop (j + 1) := by rw [List.drop_eq_getElem_cons (by simpa using hjy)]; simp [hb]
    rw [List.range'_succ]
    simp only [Op.eqItems, Nat.mul_one, Sem.run_bind, p1, p2, p3, Result.andThen_ok]
    rw [d1, d2]
    simp only [eqVals, intEq, beq_self_eq_true, Bool.true_and]
    cases hab : (a == b)
    · simp
    · simpa using ih

def eqAggP (ar : Ar) (op : BinOp) (n : Nat) (e : TypeId) (x y : SV) (K : SV → Prop) : Prop :=
  match (tt e).d with
  | .int kk => if (tt e).size = 1 then match x, y with
    | .a [.r m ws], .a [.r m' us] => if m = n ∧ m' = n then
        match op with
        | .eql => (True → ints kk ws ∧ ints kk us) ∧ K (.s (.p (.v (.bool (ar.eqv ws us)))))
        | .neq => (True → ints kk ws ∧ ints kk us) ∧ K (.s (.p (.v (.bool (ar.nb (ar.eqv ws us))))))
        | _ => False
      else False
    | _, _ => False
    else False
  | _ => False

theorem eqAggP_spec {P : Program} (hT : TTok P) {E : Env} {st : St} {a : Act} {o : Oper} {op : BinOp} {xT yT e : TypeId} {n : Nat} {x y : Operand} {K : SV → Prop} (hd : (tt xT).d = .arr n e) (hF : RepF E st.fr a.tmps.toList) (ho : o.op = .binOp op xT x y yT)
    (h : eqAggP arS op n e (st.ev xT x) (st.ev xT y) K) : ∃ sv v, K sv ∧ (∀ W, (execOp a.eval o).run P W = .ok (.value v) W) ∧ RepS E sv v := by
  have hx := RepS.ev hF xT x
  have hy := RepS.ev hF xT y
  generalize st.ev xT x = sx at *
  generalize st.ev xT y = sy at *
  obtain ⟨d, hd1, hd2⟩ := (hT.of_ok (t := xT) (by rw [hd]; rfl)).desc
  rw [hd] at hd2
  cases d <;> try exact False.elim hd2
  obtain ⟨rfl, rfl⟩ := hd2
  unfold eqAggP at h
  split at h
  · rename_i kk hdk
    obtain ⟨d, he1, he2⟩ := (hT.of_ok (t := e) (by rw [hdk]; rfl)).desc
    rw [hdk] at he2
    cases d <;> try exact False.elim he2
    cases he2
    obtain ⟨ti, z, hti, hs1, _⟩ := (hT.of_ok (t := e) (by rw [hdk]; rfl)).info
    split at h
    · rename_i hsz
      split at h
      · rename_i m ws m' us
        split at h
        · rename_i hmm
          obtain ⟨rfl, rfl⟩ := hmm
          obtain ⟨ws', ex, hl, ho1, ws2, e2, e3⟩ := hx
          have e3' : ws2 = [] := e3
          subst e3'
          rw [List.append_nil] at e2
          subst e2
          obtain ⟨us', ey, hl', ho2, us2, e4, e5⟩ := hy
          have e5' : us2 = [] := e5
          subst e5'
          rw [List.append_nil] at e4
          subst e4
          have hguard : ∀ W, (eqGuard op xT x y (a.eval x) (a.eval y)).run P W = .ok () W := fun W => by
            rw [ex, ey]
            refine run_eqGuard_agg W op xT x y _ _ ?_
            have : P.depth = (P.depth - 2) + 1 + 1 := by unfold Program.depth; omega
            rw [this]
            simp [Program.eqGuardType, hd1, he1]
          have heq : ints kk ws' → ints kk us' → ∀ W, (Op.equalIn 10000 xT (.agg ws'.toArray) (.agg us'.toArray)).run P W = .ok (eqVals ws' us') W := fun i1 i2 W => by
            rw [show (10000 : Nat) = 9999 + 1 from rfl, run_equalIn_array (P := P) W 9999 ws'.toArray us'.toArray hd1 hti]
            have := run_eqItems_int (P := P) W 9998 he1 (P.cellsOf e) (by simp [Program.cellsOf, hti, hs1, hsz]) ws'.toArray us'.toArray i1 i2 (by simp [hl, hl']) m' 0 (by simp [hl])
            rw [List.range_eq_range']
            simpa using this
          split at h
          · obtain ⟨hs, hK⟩ := h
            obtain ⟨i1, i2⟩ := hs trivial
            refine ⟨_, _, hK, fun W => ?_, rfl, rfl⟩
            unfold execOp
            have hg := hguard W
            rw [ex, ey] at hg
            simp only [ho, ex, ey]
            simp [hg, run_eql_struct, heq i1 i2, arS]
          · obtain ⟨hs, hK⟩ := h
            obtain ⟨i1, i2⟩ := hs trivial
            refine ⟨_, _, hK, fun W => ?_, rfl, rfl⟩
            unfold execOp
            have hg := hguard W
            rw [ex, ey] at hg
            simp only [ho, ex, ey]
            simp [hg, run_neq_struct, heq i1 i2, arS]
          · exact h.elim
        · exact h.elim
      · exact h.elim
    · exact h.elim
  · exact h.elim

/-! ### A pointer held against nil -/
def isPtr : SV → Option Bool
  | .s (.p (.v (.pointer none))) => some true
  | .s (.ptr _ _) => some false
  | .s (.ept _ _ _ _ _) => some false
  | .s (.ipt _ _) => some false
  | _ => none

def ptrEqP (op : BinOp) (x y : SV) (K : SV → Prop) : Prop :=
  match isPtr x with
  | some b => match y with
    | .s (.p (.v (.pointer none))) => match op with
      | .eql => K (.s (.bl b))
      | .neq => K (.s (.bl (!b)))
      | _ => False
    | _ => False
  | none => False

theorem isPtr_spec {E : Env} {x : SV} {w : Value} {b : Bool} (h : RepS E x w) (hb : isPtr x = some b) : ∃ p : Option Addr, w = .pointer p ∧ p.isNone = b := by
  unfold isPtr at hb
  split at hb
  · cases hb; exact ⟨none, h.1, rfl⟩
  · cases hb; exact ⟨_, h.2, rfl⟩
  · cases hb; exact ⟨_, h.2, rfl⟩
  · cases hb; obtain ⟨_, _, e, _⟩ := h; exact ⟨_, e, rfl⟩
  · cases hb

theorem ptrEqP_spec {P : Program} (hT : TTok P) {E : Env} {st : St} {a : Act} {o : Oper} {op : BinOp} {xT yT e : TypeId} {x y : Operand} {K : SV → Prop} (hd : (tt xT).d = .ptr e) (hF : RepF E st.fr a.tmps.toList) (ho : o.op = .binOp op xT x y yT)
    (h : ptrEqP op (st.ev xT x) (st.ev xT y) K) : ∃ sv v, K sv ∧ (∀ W, (execOp a.eval o).run P W = .ok (.value v) W) ∧ RepS E sv v := by
  have hx := RepS.ev hF xT x
  have hy := RepS.ev hF xT y
  generalize st.ev xT x = sx at *
  generalize st.ev xT y = sy at *
  obtain ⟨d, hd1, hd2⟩ := (hT.of_ok (t := xT) (by rw [hd]; rfl)).desc
  rw [hd] at hd2
  cases d <;> try exact False.elim hd2
  rename_i e'
  cases hd2
  have hu : P.underlying xT = some (.pointer (P.pointee xT)) := by rw [hd1]; simp [Program.pointee, hd1]
  unfold ptrEqP at h
  split at h
  · rename_i b hb
    obtain ⟨p, ex, hpb⟩ := isPtr_spec hx hb
    split at h
    · have ey : a.eval y = .pointer none := hy.1
      have hg : ∀ W, (eqGuard op xT x y (.pointer p) (.pointer none)).run P W = .ok () W := fun W => by unfold eqGuard; cases op <;> simp
      split at h
      · refine ⟨_, .bool b, h, fun W => ?_, rfl⟩
        unfold execOp
        simp only [ho, ex, ey]
        simp [hg W, run_eql_pointer_nil W xT p hu, hpb]
      · refine ⟨_, .bool (!b), h, fun W => ?_, rfl⟩
        unfold execOp
        simp only [ho, ex, ey]
        simp [hg W, run_neq_pointer_nil W xT p hu, hpb]
      · exact h.elim
    · exact h.elim
  · exact h.elim

/-! ### Literals -/
def placeOf (t : TypeId) (i : Nat) : Option (Nat × TypeId) :=
  match (tt t).d with
  | .arr _ e => some (i * (tt e).size, e)
  | .struct fs => fs[i]?
  | _ => none

def buildRow (st : St) (t : TypeId) (row : List Seg) : List (Nat × Operand) → Option (List Seg)
  | [] => some row
  | (i, x) :: l => match placeOf t i with
    | some (off, ft) => match stRow (tt ft) row off (st.ev ft x) with
      | some row' => buildRow st t row' l
      | none => none
    | none => none

def oksF : List (Nat × TypeId) → Bool
  | [] => true
  | (_, t) :: l => (tt t).d.ok && oksF l

def buildSV (st : St) (t : TypeId) (parts : List (Nat × Operand)) : Option SV :=
  match (tt t).d with
  | .arr _ e => if (tt e).d.ok = true then (match buildRow st t (zrow (tt t).zero) parts with | some row => some (.a row) | none => none) else none
  | .struct fs => if oksF fs = true then (match buildRow st t (zrow (tt t).zero) parts with | some row => some (.a row) | none => none) else none
  | _ => none

theorem fill_spec {P : Program} (hT : TTok P) {E : Env} {st : St} {a : Act} (hF : RepF E st.fr a.tmps.toList) {t : TypeId} {place : Nat → Option (Nat × Nat)} (hp : ∀ i off ft, placeOf t i = some (off, ft) → (tt ft).d.ok = true → place i = some (off, (tt ft).size)) :
    ∀ (parts : List (Nat × Operand)) {row row' : List Seg} {ws : List Value}, RepG E row ws → buildRow st t row parts = some row' → ∃ us : List Value, Instr.fill place ws.toArray (parts.map fun (i, x) => (i, a.eval x)) = some us.toArray ∧ RepG E row' us
  | [], row, row', ws, hr, h => by cases h; exact ⟨ws, rfl, hr⟩
  | (i, x) :: l, row, row', ws, hr, h => by
    simp only [buildRow] at h
    split at h
    · rename_i off ft hpl
      split at h
      · rename_i row1 hst
        obtain ⟨cs, e, hok, hs, hf, h1, hrow⟩ := stRow_spec hr (RepS.ev hF ft x) hst
        obtain ⟨us, hu, hg⟩ := fill_spec hT hF hp l hrow h
        refine ⟨us, ?_, hg⟩
        rw [List.map_cons]
        simp only [Instr.fill, hp i off ft hpl hok, e, List.size_toArray, hs]
        have hc : ¬ ((tt ft).size ≠ (tt ft).size || decide (off + (tt ft).size > ws.toArray.size)) = true := by
          simp only [ne_eq, not_true_eq_false, decide_false, Bool.false_or, decide_eq_true_eq, List.size_toArray]
          omega
        rw [if_neg (by simpa using hc)]
        rw [← hu]
        congr 1
        refine Array.ext_getElem? fun q => ?_
        rw [← Array.foldl_toList]
        have hz : (cs.toArray.zipIdx).toList = cs.zipIdx 0 := by simp
        rw [hz, (Great.foldl_set off cs 0 ws.toArray).2 q]
        simp only [Nat.add_zero, List.size_toArray, List.getElem?_toArray, List.getElem?_append, List.length_append, List.length_take, List.getElem?_take, List.getElem?_drop]
        grind
      · cases h
    · cases h

theorem buildSV_spec {P : Program} (hT : TTok P) {E : Env} {st : St} {a : Act} {o : Oper} {t : TypeId} {parts : Array (Nat × Operand)} {sv : SV} (hF : RepF E st.fr a.tmps.toList) (ho : o.op = .build t parts) (h : buildSV st t parts.toList = some sv) :
    ∃ v, (∀ W, (execOp a.eval o).run P W = .ok (.value v) W) ∧ RepS E sv v := by
  have fin : ∀ us : List Value, P.built t (parts.toList.map fun (i, x) => (i, a.eval x)) = some us.toArray → ∀ W, (execOp a.eval o).run P W = .ok (.value (.agg us.toArray)) W := fun us hb W => by
    have := run_build (P := P) W t (parts.map fun (i, x) => (i, a.eval x)) us.toArray (by rw [Array.toList_map]; exact hb)
    unfold execOp
    simp only [ho]
    simp [this]
  unfold buildSV at h
  split at h
  · rename_i n e hd
    have hok := hT.of_ok (t := t) (by rw [hd]; rfl)
    obtain ⟨d, hd1, hd2⟩ := hok.desc
    rw [hd] at hd2
    cases d <;> try exact False.elim hd2
    obtain ⟨rfl, rfl⟩ := hd2
    obtain ⟨ti, z, hti, _, _, hz, hzv, _⟩ := hok.info
    split at h
    · rename_i he
      obtain ⟨te, ze, hte, hse, _⟩ := (hT.of_ok he).info
      split at h
      · rename_i row hb
        cases h
        obtain ⟨us, hu, hg⟩ := fill_spec (P := P) hT hF (t := t) (place := fun i => some (i * te.size, te.size)) (fun i off ft hpl _ => by
          simp only [placeOf, hd, Option.some.injEq, Prod.mk.injEq] at hpl
          obtain ⟨rfl, rfl⟩ := hpl
          rw [hse]) parts.toList (RepG.zrow hzv) hb
        refine ⟨_, fin us ?_, us, rfl, hg⟩
        simp only [Program.built, hti, hd1, hz, hte]
        simpa using hu
      · cases h
    · cases h
  · rename_i fs hd
    have hok := hT.of_ok (t := t) (by rw [hd]; rfl)
    obtain ⟨d, hd1, hd2⟩ := hok.desc
    rw [hd] at hd2
    cases d <;> try exact False.elim hd2
    rename_i F
    have hF' : fs = F.toList.map fun f => (f.offset, f.type) := hd2
    obtain ⟨ti, z, hti, _, _, hz, hzv, _⟩ := hok.info
    split at h
    · rename_i hoks
      have hplaces : ∀ (G : List Field), oksF (G.map fun f => (f.offset, f.type)) = true → G.mapM (fun f => (P.info? f.type).map fun i => (f.offset, i.size)) = some ((G.map fun f => (f.offset, f.type)).map fun p => (p.1, (tt p.2).size)) := by
        intro G
        induction G with
        | nil => intro _; rfl
        | cons f G ih =>
          intro h
          simp only [List.map_cons, oksF, Bool.and_eq_true] at h
          obtain ⟨tf, zf, htf, hsf, _⟩ := (hT.of_ok h.1).info
          rw [List.mapM_cons, ih h.2, htf]
          simp [hsf]
      split at h
      · rename_i row hb
        cases h
        have hpl := hplaces F.toList (by rw [← hF']; exact hoks)
        rw [← hF'] at hpl
        obtain ⟨us, hu, hg⟩ := fill_spec (P := P) hT hF (t := t) (place := ((fs.map fun p => (p.1, (tt p.2).size)).toArray[·]?)) (fun i off ft hpl _ => by
          simp only [placeOf, hd] at hpl
          simp [hpl]) parts.toList (RepG.zrow hzv) hb
        refine ⟨_, fin us ?_, us, rfl, hg⟩
        simp only [Program.built, hti, hd1, hz, hpl]
        simpa using hu
      · cases h
    · cases h
  · cases h

end Go.Eng
