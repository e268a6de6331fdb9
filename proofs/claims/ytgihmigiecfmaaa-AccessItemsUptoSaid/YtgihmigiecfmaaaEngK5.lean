/-
  Equality of flat structs: numbers and bools, arrays and structs of such.
-/
import Derived.Test.YtgihmigiecfmaaaEngK4
import Derived.DeepKeys
namespace Go.Eng
open Go Go.RowKit
set_option linter.unusedVariables false

/-- A leaf of a flat type: a kind of number, or a bool. -/
abbrev Leaf := Option IntKind

def repLeaf (l : List Leaf) : Nat → List Leaf
  | 0 => []
  | n + 1 => l ++ repLeaf l n

def leafsF (g : TypeId → Option (List Leaf)) : List (Nat × TypeId) → Nat → Option (List Leaf)
  | [], _ => some []
  | (off, ft) :: fs, at_ => if off = at_ ∧ (tt ft).d.ok = true then
      match g ft with
      | some l => if l.length = (tt ft).size then (match leafsF g fs (at_ + l.length) with
        | some m => some (l ++ m)
        | none => none) else none
      | none => none
    else none

def leafs : Nat → TypeId → Option (List Leaf)
  | 0, _ => none
  | f + 1, t => match (tt t).d with
    | .int k => if (tt t).size = 1 then some [some k] else none
    | .bool => if (tt t).size = 1 then some [none] else none
    | .arr n e => match leafs f e with
      | some l => if (tt e).d.ok = true ∧ l.length = (tt e).size ∧ n * l.length = (tt t).size then some (repLeaf l n) else none
      | none => none
    | .struct fs => match leafsF (leafs f) fs 0 with
      | some l => if l.length = (tt t).size then some l else none
      | none => none
    | _ => none

/-- The cells are of the leaves' kinds, in their ranges. -/
def okL : List Leaf → List Value → Prop
  | [], [] => True
  | some k :: l, v :: vs => (∃ n, v = .int k n ∧ (Lit.int k n).wf = true) ∧ okL l vs
  | none :: l, v :: vs => (∃ b, v = .bool b) ∧ okL l vs
  | _, _ => False

def litOf : Value → Lit
  | .int k n => .int k n
  | .bool b => .bool b
  | _ => .bool false

theorem okL_length : ∀ {l : List Leaf} {vs : List Value}, okL l vs → vs.length = l.length
  | [], [], _ => rfl
  | some _ :: l, _ :: vs, h => by simp [okL_length h.2]
  | none :: l, _ :: vs, h => by simp [okL_length h.2]
  | [], _ :: _, h => h.elim
  | some _ :: _, [], h => h.elim
  | none :: _, [], h => h.elim

theorem okL_append : ∀ {l m : List Leaf} {vs : List Value}, okL (l ++ m) vs → okL l (vs.take l.length) ∧ okL m (vs.drop l.length)
  | [], m, vs, h => ⟨trivial, h⟩
  | some _ :: l, m, v :: vs, h => ⟨⟨h.1, (okL_append h.2).1⟩, (okL_append h.2).2⟩
  | none :: l, m, v :: vs, h => ⟨⟨h.1, (okL_append h.2).1⟩, (okL_append h.2).2⟩
  | some _ :: _, _, [], h => h.elim
  | none :: _, _, [], h => h.elim

theorem eqVals_lits : ∀ {l : List Leaf} {vs us : List Value}, okL l vs → okL l us → (eqVals vs us = true ↔ vs.map litOf = us.map litOf)
  | [], [], [], _, _ => by simp [eqVals]
  | some k :: l, v :: vs, u :: us, ⟨⟨n, hv, _⟩, h⟩, ⟨⟨m, hu, _⟩, h'⟩ => by
    subst hv; subst hu
    simp [eqVals, intEq, litOf, eqVals_lits h h']
  | none :: l, v :: vs, u :: us, ⟨⟨n, hv⟩, h⟩, ⟨⟨m, hu⟩, h'⟩ => by
    subst hv; subst hu
    simp [eqVals, intEq, litOf, eqVals_lits h h']
  | [], _ :: _, _, h, _ => h.elim
  | [], [], _ :: _, _, h => h.elim
  | some _ :: _, [], _, h, _ => h.elim
  | none :: _, [], _, h, _ => h.elim
  | some _ :: _, _ :: _, [], _, h => h.elim
  | none :: _, _ :: _, [], _, h => h.elim

theorem cellsOf_tt {P : Program} (hT : TTok P) {t : TypeId} (h : (tt t).d.ok = true) : P.cellsOf t = (tt t).size := by
  obtain ⟨ti, z, hi, hs, _⟩ := (hT.of_ok h).info
  simp [Program.cellsOf, hi, hs]

theorem mapM_range {α : Type} {f : Nat → Option α} {g : Nat → α} : ∀ (n : Nat), (∀ i, i < n → f i = some (g i)) → (List.range n).mapM f = some ((List.range n).map g) := fun n h => by
  have : ∀ l : List Nat, (∀ i ∈ l, i < n) → l.mapM f = some (l.map g) := fun l hl => by
    induction l with
    | nil => rfl
    | cons x l ih =>
      rw [List.mapM_cons, h x (hl x (by simp)), ih fun i hi => hl i (by simp [hi])]
      rfl
  exact this _ fun i hi => List.mem_range.1 hi

theorem repLeaf_length (l : List Leaf) : ∀ n, (repLeaf l n).length = n * l.length
  | 0 => by simp [repLeaf]
  | n + 1 => by simp [repLeaf, repLeaf_length l n, Nat.add_mul]; omega

theorem okL_rep {l : List Leaf} : ∀ {n : Nat} {vs : List Value}, okL (repLeaf l n) vs → ∀ i, i < n → okL l ((vs.drop (i * l.length)).take l.length)
  | n + 1, vs, h, 0, _ => by
    have := (okL_append (l := l) (m := repLeaf l n) h).1
    simpa using this
  | n + 1, vs, h, i + 1, hi => by
    have := okL_rep (okL_append (l := l) (m := repLeaf l n) h).2 i (by omega)
    rw [List.drop_drop] at this
    rw [show (i + 1) * l.length = l.length + i * l.length by rw [Nat.add_mul]; omega]
    exact this

theorem parts_flat {sz : Nat} : ∀ (n : Nat) (vs : List Value), vs.length = n * sz → ((List.range n).map fun i => ((vs.drop (i * sz)).take sz).map litOf).flatten = vs.map litOf
  | 0, vs, h => by
    have : vs = [] := List.eq_nil_of_length_eq_zero (by omega)
    subst this; rfl
  | n + 1, vs, h => by
    rw [List.range_succ_eq_map, List.map_cons, List.flatten_cons, List.map_map]
    have ih := parts_flat (sz := sz) n (vs.drop sz) (by rw [List.length_drop, h, Nat.add_mul]; omega)
    have e : ((fun i => ((vs.drop (i * sz)).take sz).map litOf) ∘ Nat.succ) = fun i => (((vs.drop sz).drop (i * sz)).take sz).map litOf := by
      funext i
      simp only [Function.comp, List.drop_drop]
      rw [show Nat.succ i * sz = sz + i * sz by rw [Nat.succ_mul]; omega]
    rw [e, ih, Nat.zero_mul, List.drop_zero, ← List.map_append, List.take_append_drop]

theorem leafsF_lits {P : Program} (hT : TTok P) {f : Nat} {g : TypeId → Option (List Leaf)} (IH : ∀ {t : TypeId} {l : List Leaf} {vs : List Value} {m : Nat}, g t = some l → P.keyTypeAt m t = true → okL l vs → P.keyLits f t vs = some (vs.map litOf)) :
    ∀ {F : List Field} {l : List Leaf} {vs : List Value} {at_ m : Nat}, leafsF g (F.map fun f => (f.offset, f.type)) at_ = some l → (∀ q ∈ F, P.keyTypeAt m q.type = true) → okL l (vs.drop at_) →
    ∃ as : List (List Lit), F.mapM (fun q => P.keyLits f q.type ((vs.drop q.offset).take (P.cellsOf q.type))) = some as ∧ as.flatten = (vs.drop at_).map litOf
  | [], l, vs, at_, m, h, _, ho => by
    have : l = [] := by simp only [List.map_nil, leafsF] at h; cases h; rfl
    subst this
    refine ⟨[], rfl, ?_⟩
    match hv : vs.drop at_, ho with
    | [], _ => rfl
  | q :: F, l, vs, at_, m, h, hk, ho => by
    simp only [List.map_cons, leafsF] at h
    split at h
    · rename_i hc
      obtain ⟨hoff, hok⟩ := hc
      split at h
      · rename_i l1 hl1
        split at h
        · rename_i hsz
          split at h
          · rename_i m1 hm1
            cases h
            obtain ⟨o1, o2⟩ := okL_append ho
            have hcg := cellsOf_tt hT hok
            have k1 := IH hl1 (hk q (by simp)) o1
            rw [List.drop_drop] at o2
            obtain ⟨as, a1, a2⟩ := leafsF_lits hT IH hm1 (fun r hr => hk r (by simp [hr])) o2
            refine ⟨((vs.drop at_).take l1.length).map litOf :: as, ?_, ?_⟩
            · rw [List.mapM_cons, hoff, hcg, ← hsz, k1, a1]
              rfl
            · rw [List.flatten_cons, a2, ← List.drop_drop, ← List.map_append, List.take_append_drop]
          · cases h
        · cases h
      · cases h
    · cases h

theorem leafs_lits {P : Program} (hT : TTok P) : ∀ (f : Nat) {t : TypeId} {l : List Leaf} {vs : List Value} {m : Nat}, leafs f t = some l → P.keyTypeAt m t = true → okL l vs → P.keyLits f t vs = some (vs.map litOf)
  | 0, _, _, _, _, h, _, _ => by simp [leafs] at h
  | f + 1, t, l, vs, m, h, hk, ho => by
    have hok : (tt t).d.ok = true := by
      unfold leafs at h
      cases hd : (tt t).d <;> first | rfl | (rw [hd] at h; cases h)
    obtain ⟨d, hd1, hd2⟩ := (hT.of_ok hok).desc
    have hcells := cellsOf_tt hT hok
    unfold leafs at h
    split at h
    · rename_i k hd
      rw [hd] at hd2
      cases d <;> try exact False.elim hd2
      cases hd2
      split at h
      · cases h
        match vs, ho with
        | [v], ⟨⟨n, hv, hw⟩, _⟩ =>
          subst hv
          unfold Program.keyLits
          rw [hd1]
          simp [hw, litOf]
      · cases h
    · rename_i hd
      rw [hd] at hd2
      cases d <;> try exact False.elim hd2
      split at h
      · cases h
        match vs, ho with
        | [v], ⟨⟨n, hv⟩, _⟩ =>
          subst hv
          unfold Program.keyLits
          rw [hd1]
          simp [litOf]
      · cases h
    · rename_i n e hd
      rw [hd] at hd2
      cases d <;> try exact False.elim hd2
      obtain ⟨rfl, rfl⟩ := hd2
      split at h
      · rename_i l' hl'
        split at h
        · rename_i hc
          obtain ⟨hoke, hl1, hl2⟩ := hc
          cases h
          have hce := cellsOf_tt hT hoke
          have hlen := okL_length ho
          rw [repLeaf_length, hl2] at hlen
          have hke : ∃ m', P.keyTypeAt m' e = true := by
            cases m with
            | zero => simp [Program.keyTypeAt] at hk
            | succ m => unfold Program.keyTypeAt at hk; rw [hd1] at hk; exact ⟨m, hk⟩
          obtain ⟨m', hke⟩ := hke
          have hparts := mapM_range (f := fun i => P.keyLits f e ((vs.drop (i * P.cellsOf e)).take (P.cellsOf e))) (g := fun i => ((vs.drop (i * (tt e).size)).take (tt e).size).map litOf) n fun i hi => by
            simp only [hce]
            have := okL_rep ho i hi
            rw [hl1] at this
            exact leafs_lits hT f hl' hke this
          have fin : (if vs.length = P.cellsOf t then ((List.range n).mapM fun i => P.keyLits f e ((vs.drop (i * P.cellsOf e)).take (P.cellsOf e))).map List.flatten else none) = some (vs.map litOf) := by
            rw [if_pos (by rw [hcells, hlen]), hparts, Option.map_some, parts_flat n vs (by rw [hlen, ← hl2, hl1])]
          unfold Program.keyLits
          rw [hd1]
          exact fin
        · cases h
      · cases h
    · rename_i fs hd
      rw [hd] at hd2
      cases d <;> try exact False.elim hd2
      rename_i F
      have hF : fs = F.toList.map fun f => (f.offset, f.type) := hd2
      split at h
      · rename_i l' hl'
        split at h
        · rename_i hc
          cases h
          have hlen := okL_length ho
          have hkf : F.all (fun f => f.name != "_") = true ∧ ∃ m', ∀ g ∈ F.toList, P.keyTypeAt m' g.type = true := by
            cases m with
            | zero => simp [Program.keyTypeAt] at hk
            | succ m =>
              unfold Program.keyTypeAt at hk; rw [hd1] at hk
              simp only [Bool.and_eq_true] at hk
              have h1 := hk.1.1
              refine ⟨?_, m, fun g hg => ?_⟩
              · rw [Array.all_eq_true] at h1 ⊢
                intro i hi
                have := h1 i hi
                simp only [Bool.and_eq_true] at this
                exact this.1
              · have := Array.all_eq_true_iff_forall_mem.1 h1 g (Array.mem_toList_iff.1 hg)
                simp only [Bool.and_eq_true] at this
                exact this.2
          obtain ⟨hnames, m', hkt⟩ := hkf
          obtain ⟨as, h1, h2⟩ := leafsF_lits hT (f := f) (g := leafs f) (fun hl hk ho => leafs_lits hT f hl hk ho) (F := F.toList) (vs := vs) (at_ := 0) (by rw [← hF]; exact hl') hkt (by simpa using ho)
          unfold Program.keyLits
          rw [hd1]
          have hcnd : vs.length = P.cellsOf t ∧ F.all (fun f => f.name != "_") = true := ⟨by rw [hcells, hlen, hc], hnames⟩
          simp only
          rw [if_pos hcnd, h1, Option.map_some, h2, List.drop_zero]
        · cases h
      · cases h
    · cases h
/-! ### The operation -/
def flatRow : List Seg → Option (List Value)
  | [] => some []
  | .r _ ws :: l => match flatRow l with | some us => some (ws ++ us) | none => none
  | .c (.lit k n) :: l => match flatRow l with | some us => some (.int k n :: us) | none => none
  | .c (.bl b) :: l => match flatRow l with | some us => some (.bool b :: us) | none => none
  | .c (.p (.v x)) :: l => match flatRow l with | some us => some (x :: us) | none => none
  | _ => none

theorem flatRow_spec {E : Env} : ∀ {row : List Seg} {ws us : List Value}, RepG E row ws → flatRow row = some us → ws = us
  | [], _, _, h, k => by cases k; exact h
  | .r n vs :: l, _, us, ⟨_, _, ws', e, hr⟩, k => by
    simp only [flatRow] at k
    split at k
    · rename_i us' h'; cases k; rw [e, flatRow_spec hr h']
    · cases k
  | .c (.lit _ _) :: l, _, us, ⟨w, ws', e, hv, hr⟩, k => by
    simp only [flatRow] at k
    split at k
    · rename_i us' h'; cases k; rw [e, flatRow_spec hr h', show w = _ from hv]
    · cases k
  | .c (.bl _) :: l, _, us, ⟨w, ws', e, hv, hr⟩, k => by
    simp only [flatRow] at k
    split at k
    · rename_i us' h'; cases k; rw [e, flatRow_spec hr h', show w = _ from hv]
    · cases k
  | .c (.p (.v x)) :: l, _, us, ⟨w, ws', e, hv, hr⟩, k => by
    simp only [flatRow] at k
    split at k
    · rename_i us' h'; cases k; rw [e, flatRow_spec hr h', show w = _ from hv.1]
    · cases k
  | .c (.p (.sl _ _)) :: _, _, _, _, k => by cases k
  | .c .nil :: _, _, _, _, k => by cases k
  | .c (.own _) :: _, _, _, _, k => by cases k
  | .c (.ptr _ _) :: _, _, _, _, k => by cases k
  | .c (.ept _ _ _ _ _) :: _, _, _, _, k => by cases k
  | .c (.ipt _ _) :: _, _, _, _, k => by cases k
  | .c (.bsl _ _ _ _) :: _, _, _, _, k => by cases k
  | .c (.clo _ _) :: _, _, _, _, k => by cases k
  | .c .dead :: _, _, _, _, k => by cases k
  | .c (.stl _) :: _, _, _, _, k => by cases k

/-- What is known of a flat struct type. -/
structure EqOk (P : Program) (t : TypeId) : Prop where
  key : P.keyTypeAt 12 t = true
  guard : P.eqGuardType P.depth t = false

def eqFlatP (ar : Ar) (op : BinOp) (t : TypeId) (x y : SV) (K : SV → Prop) : Prop :=
  match leafs 12 t with
  | some ls => match x with
    | .a row => match y with
      | .a row' => match flatRow row with
        | some ws => match flatRow row' with
          | some us => match op with
            | .eql => ∃ r : Bool, (True → okL ls ws ∧ okL ls us ∧ eqVals ws us = r) ∧ K (.s (.p (.v (.bool r))))
            | .neq => ∃ r : Bool, (True → okL ls ws ∧ okL ls us ∧ eqVals ws us = r) ∧ K (.s (.p (.v (.bool (ar.nb r)))))
            | _ => False
          | none => False
        | none => False
      | _ => False
    | _ => False
  | none => False

theorem eqFlatP_spec {P : Program} (hT : TTok P) {E : Env} {st : St} {a : Act} {o : Oper} {op : BinOp} {xT yT : TypeId} {x y : Operand} {K : SV → Prop} {fs : List (Nat × TypeId)} (hd : (tt xT).d = .struct fs) (hE : EqOk P xT) (hF : RepF E st.fr a.tmps.toList) (ho : o.op = .binOp op xT x y yT)
    (h : eqFlatP arS op xT (st.ev xT x) (st.ev xT y) K) : ∃ sv v, K sv ∧ (∀ W, (execOp a.eval o).run P W = .ok (.value v) W) ∧ RepS E sv v := by
  have hx := RepS.ev hF xT x
  have hy := RepS.ev hF xT y
  generalize st.ev xT x = sx at *
  generalize st.ev xT y = sy at *
  obtain ⟨d, hd1, hd2⟩ := (hT.of_ok (t := xT) (by rw [hd]; rfl)).desc
  have hcells := cellsOf_tt hT (t := xT) (by rw [hd]; rfl)
  rw [hd] at hd2
  cases d <;> try exact False.elim hd2
  unfold eqFlatP at h
  split at h
  · rename_i ls hls
    have hlen : ls.length = (tt xT).size := by
      unfold leafs at hls
      rw [hd] at hls
      simp only at hls
      split at hls
      · split at hls
        · cases hls; assumption
        · cases hls
      · cases hls
    split at h
    · rename_i row
      split at h
      · rename_i row'
        split at h
        · rename_i ws hws
          split at h
          · rename_i us hus
            obtain ⟨vs1, ex, hr1⟩ := hx
            obtain ⟨vs2, ey, hr2⟩ := hy
            have e1 := flatRow_spec hr1 hws
            have e2 := flatRow_spec hr2 hus
            subst e1; subst e2
            have hg : ∀ W, (eqGuard op xT x y (a.eval x) (a.eval y)).run P W = .ok () W := fun W => by
              rw [ex, ey]; exact run_eqGuard_agg W op xT x y _ _ hE.guard
            have heq : okL ls vs1 → okL ls vs2 → ∀ W, (Op.equalIn 10000 xT (.agg vs1.toArray) (.agg vs2.toArray)).run P W = .ok (eqVals vs1 vs2) W := fun o1 o2 W => by
              have k1 := leafs_lits hT 12 hls hE.key o1
              have k2 := leafs_lits hT 12 hls hE.key o2
              have l1 := okL_length o1
              have l2 := okL_length o2
              obtain ⟨r, hr, hiff⟩ := run_equalIn_deep (P := P) 9988 12 xT hE.key W 12 12 (.agg vs1.toArray) (.agg vs2.toArray) _ _ (by simp [Value.formed, hd1, hcells, l1, hlen]) (by simp [Value.formed, hd1, hcells, l2, hlen]) (by simpa [Value.cells] using k1) (by simpa [Value.cells] using k2)
              rw [show (10000 : Nat) = 9988 + 12 from rfl, hr]
              congr 1
              have := eqVals_lits o1 o2
              rw [Bool.eq_iff_iff, hiff, this]
            split at h
            · obtain ⟨r, hs, hK⟩ := h
              obtain ⟨o1, o2, hr⟩ := hs trivial
              refine ⟨_, .bool r, hK, fun W => ?_, rfl, rfl⟩
              unfold execOp
              have hg' := hg W
              rw [ex, ey] at hg'
              simp only [ho, ex, ey]
              simp [hg', run_eql_struct, heq o1 o2, hr]
            · obtain ⟨r, hs, hK⟩ := h
              obtain ⟨o1, o2, hr⟩ := hs trivial
              refine ⟨_, .bool (!r), hK, fun W => ?_, rfl, rfl⟩
              unfold execOp
              have hg' := hg W
              rw [ex, ey] at hg'
              simp only [ho, ex, ey]
              simp [hg', run_neq_struct, heq o1 o2, hr]
            · exact h.elim
          · exact h.elim
        · exact h.elim
      · exact h.elim
    · exact h.elim
  · exact h.elim

end Go.Eng
