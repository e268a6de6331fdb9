/-
  The operations, go on: new boxes, stores, indexes, lengths.
-/
import Derived.Test.YtgihmigiecfmaaaEngF
namespace Go.Eng
open Go Go.RowKit

theorem mu_lt {B : Nat} {E : Env} {ob : List Ob} {W : World} (h : Inv B E ob W) {b : Nat} (hb : W.heap.size ≤ b) (o : Nat) : E.μ b o = none := by
  cases hm : E.μ b o with
  | none => rfl
  | some w => have := World.cell_lt (h.mu b o w hm); omega

/-! ### New boxes -/
theorem Sim.newBox {B : Nat} {W0 : World} {m0 : Mem} {E : Env} {st : St} {a : Act} {W : World} {row : List Seg} {ws : List Value} (h : Sim B W0 m0 E st a W) (hr : RepG E row ws) (t : TypeId) :
    Sim B W0 m0 (E.push W.heap.size undef) ⟨st.fr, st.ob ++ [.box row]⟩ a (W.alloc (.cells ws.toArray t)) ∧ RepS (E.push W.heap.size undef) (.s (.ptr st.ob.length 0)) (.pointer (some ⟨W.heap.size, 0, none⟩)) := by
  have hn : st.ob.length = E.n := h.inv.n.symm
  have hρ : (E.push W.heap.size undef).ρ E.n = W.heap.size := by simp [Env.push]
  refine ⟨⟨h.inv.add (World.grownBy_alloc W _ none) ⟨?_, ⟨t, ws, ?_, hr.mono (E.le_push _ _)⟩, fun o => ?_⟩ (fun g hg => ?_), h.fr.mono (E.le_push _ _), h.below.alloc h.inv.size _, h.grew, h.had, h.defers⟩, ?_, ?_⟩
  · rw [hρ]; exact h.inv.size
  · rw [hρ]; exact heap_alloc_new W _
  · rw [hρ]; exact mu_lt h.inv (Nat.le_refl _) o
  · simp only [Wb, hρ] at hg; omega
  · rw [hn]; exact Nat.lt_succ_self _
  · rw [hn, hρ]

theorem run_zeroValue {P : Program} {t : TypeId} {ti : TypeInfo} {z : Value} (hi : P.info? t = some ti) (hz : ti.zero = some z) (W : World) : (zeroValue t).run P W = .ok z W := by
  simp [zeroValue, typeInfo, hi, hz]

def allocP (st : St) (t : TypeId) (k : SV → St → Prop) : Prop :=
  match (tt t).d with
  | .bad => False
  | _ => k (.s (.ptr st.ob.length 0)) ⟨st.fr, st.ob ++ [.box (zrow (tt t).zero)]⟩

theorem allocP_spec {c0 : Bool} {P : Program} (hT : TTok P) {B : Nat} {W0 : World} {m0 : Mem} {E : Env} {st : St} {a : Act} {W : World} {o : Oper} {t : TypeId} {k : SV → St → Prop} {next : Act → World → Prop} {Q : Exit → Act → World → Prop}
    (h : Sim B W0 m0 E st a W) (ho : o.op = .alloc t) (hk : allocP st t k) (hn : Nexts c0 B W0 m0 a W o next k) : o.wp P a W next Q := by
  have hok : TIok P t (tt t) := by
    rcases hT t with h' | h'
    · simp [allocP, h'] at hk
    · exact h'
  have hk' : k (.s (.ptr st.ob.length 0)) ⟨st.fr, st.ob ++ [.box (zrow (tt t).zero)]⟩ := by
    unfold allocP at hk
    split at hk
    · exact hk.elim
    · exact hk
  obtain ⟨ti, z, hi, _, _, hz, hv, _⟩ := hok.info
  obtain ⟨h1, h2⟩ := h.newBox (RepG.zrow hv) t
  refine wp_value (w' := W.alloc (.cells z.cells t)) (v := .pointer (some ⟨W.heap.size, 0, none⟩)) ?_ (hn _ _ _ _ _ hk' (by simpa using h1) h2 fun _ => Keeps.grown (World.grownBy_alloc W _ none))
  unfold execOp
  simp only [ho]
  simp [Instr.alloc, run_zeroValue hi hz, newVar, newRow, newObj]
  rfl

def boxP (st : St) (x : SV) (k : SV → St → Prop) : Prop :=
  match x with
  | .s c => k (.s (.ptr st.ob.length 0)) ⟨st.fr, st.ob ++ [.box [.c c]]⟩
  | .a row => k (.s (.ptr st.ob.length 0)) ⟨st.fr, st.ob ++ [.box row]⟩
  | _ => False

theorem cells_oneCell {v : Value} (h : v.oneCell' = true) : v.cells = #[v] := by
  cases v <;> first | rfl | cases h

theorem boxP_spec {c0 : Bool} {P : Program} {B : Nat} {W0 : World} {m0 : Mem} {E : Env} {st : St} {a : Act} {W : World} {o : Oper} {t : TypeId} {x : Operand} {k : SV → St → Prop} {next : Act → World → Prop} {Q : Exit → Act → World → Prop}
    (h : Sim B W0 m0 E st a W) (ho : o.op = .box t x) (hk : boxP st (st.ev t x) k) (hn : Nexts c0 B W0 m0 a W o next k) : o.wp P a W next Q := by
  have hx := RepS.ev h.fr t x
  have run : ∀ cs, (a.eval x).cells = cs → (execOp a.eval o).run P W = .ok (.value (.pointer (some ⟨W.heap.size, 0, none⟩))) (W.alloc (.cells cs t)) := fun cs e => by
    unfold execOp
    simp only [ho]
    simp [Instr.box, newVar, newRow, newObj, e]
    rfl
  generalize st.ev t x = sx at *
  unfold boxP at hk
  split at hk
  · rename_i c
    obtain ⟨h1, h2⟩ := h.newBox (row := [.c c]) (ws := [a.eval x]) ⟨_, [], rfl, hx, rfl⟩ t
    exact wp_value (run _ (cells_oneCell (RepK.oneCell hx))) (hn _ _ _ _ _ hk h1 h2 fun _ => Keeps.grown (World.grownBy_alloc W _ none))
  · rename_i row
    obtain ⟨ws, e, hr⟩ := hx
    obtain ⟨h1, h2⟩ := h.newBox hr t
    exact wp_value (run ws.toArray (by rw [e]; rfl)) (hn _ _ _ _ _ hk h1 h2 fun _ => Keeps.grown (World.grownBy_alloc W _ none))
  · exact hk.elim

/-! ### Stores -/
def stRow (i : TI) (row : List Seg) (off : Nat) : SV → Option (List Seg)
  | .s c => if i.d.ok = true ∧ i.size = 1 then rput row off c else none
  | .a r => if i.d.ok = true ∧ glen r = i.size then (if off = 0 ∧ glen row = i.size then some r else rputs row r off i.size) else none
  | _ => none

theorem run_store_box {P : Program} {W : World} {g off : Nat} {cur : Array Value} {ty t : TypeId} {v : Value} {ti : TypeInfo} (hg : W.heap[g]? = some (.cells cur ty (0, 0))) (hi : P.info? t = some ti) (hs : v.cells.size = ti.size)
    (hfit : off + v.cells.size ≤ cur.size) (h1 : ∀ c ∈ v.cells.toList, c.oneCell' = true) :
    (Instr.storeAt t (.pointer (some ⟨g, off, none⟩)) v).run P W = .ok () (W.setRow g (cur.toList.take off ++ v.cells.toList ++ cur.toList.drop (off + v.cells.size)).toArray) := by
  have := run_storeCells_at P g off ty v.cells.toList 0 cur W hg (by simpa using hfit) h1
  simp only [Nat.add_zero, Array.length_toList] at this
  have hs' : ¬ (v.cells.size ≠ ti.size) := by omega
  simp [Instr.storeAt, Instr.sureAddr, storeVar, sizeOf, typeInfo, hi, hs, this]

theorem rdrop_none : ∀ (row : List Seg) {E : Env} (n : Nat) (ws : List Value), RepG E row ws → ws.length < n → rdrop row n = none
  | [], _, n, ws, _, hlt => by cases n with
    | zero => omega
    | succ n => rfl
  | .c x :: rest, _, n, _, ⟨w, ws', e, _, hr'⟩, hlt => by
    cases n with
    | zero => omega
    | succ n =>
      subst e
      simp only [rdrop]
      exact rdrop_none rest n ws' hr' (by simpa using hlt)
  | .r m vs :: rest, _, n, _, ⟨hl, _, ws', e, hr'⟩, hlt => by
    cases n with
    | zero => omega
    | succ n =>
      subst e
      simp only [rdrop]
      simp at hlt
      rw [if_pos (by omega)]
      exact rdrop_none rest _ ws' hr' (by omega)

/-- A part laid into a row. -/
theorem stRow_spec {E : Env} {row row' : List Seg} {ws : List Value} {t : TypeId} {off : Nat} {sx : SV} {v : Value} (hr : RepG E row ws) (hx : RepS E sx v) (hst : stRow (tt t) row off sx = some row') :
    ∃ cs : List Value, v.cells = cs.toArray ∧ (tt t).d.ok = true ∧ cs.length = (tt t).size ∧ off + cs.length ≤ ws.length ∧ (∀ c ∈ cs, c.oneCell' = true) ∧ RepG E row' (ws.take off ++ cs ++ ws.drop (off + cs.length)) := by
  unfold stRow at hst
  split at hst
  · rename_i c
    split at hst
    · rename_i hc
      obtain ⟨h1, h2⟩ := hr.put hst hx
      have h1c := RepK.oneCell hx
      refine ⟨[v], cells_oneCell h1c, hc.1, by simp [hc.2], by simp only [List.length_cons, List.length_nil]; omega, by simpa using h1c, ?_⟩
      rw [List.set_eq_take_append_cons_drop, if_pos h2] at h1
      simpa using h1
    · cases hst
  · rename_i r
    obtain ⟨us, e, hru⟩ := hx
    split at hst
    · rename_i hc
      have hul : us.length = (tt t).size := by rw [hru.length, hc.2]
      split at hst
      · rename_i h0
        cases hst
        obtain ⟨rfl, hrl⟩ := h0
        have hwl : ws.length = (tt t).size := by rw [hr.length, hrl]
        refine ⟨us, by rw [e]; rfl, hc.1, hul, by omega, hru.all_oneCell, ?_⟩
        rw [List.take_zero, List.nil_append, List.drop_of_length_le (by omega), List.append_nil]
        exact hru
      · rw [← hul] at hst
        refine ⟨us, by rw [e]; rfl, hc.1, hul, ?_, hru.all_oneCell, hr.puts hru hst⟩
        simp only [rputs, Option.bind_eq_some_iff, Option.map_eq_some_iff] at hst
        obtain ⟨l, hl1, r', hr1, _⟩ := hst
        rcases Nat.lt_or_ge ws.length (off + us.length) with hlt' | hge
        · rw [rdrop_none row _ ws hr hlt'] at hr1; cases hr1
        · exact hge
    · cases hst
  · cases hst

theorem storeBox_spec {P : Program} (hT : TTok P) {B : Nat} {W0 : World} {m0 : Mem} {E : Env} {st : St} {a : Act} {W : World} {o : Oper} {t : TypeId} {p x : Operand} {k : SV → St → Prop} {next : Act → World → Prop} {Q : Exit → Act → World → Prop} {j off : Nat} {row row' : List Seg} {sx : SV}
    (h : Sim B W0 m0 E st a W) (ho : o.op = .store t p x) (hp : RepS E (.s (.ptr j off)) (a.eval p)) (hx : RepS E sx (a.eval x)) (hj : st.ob[j]? = some (.box row)) (hst : stRow (tt t) row off sx = some row')
    (hk : k .un ⟨st.fr, st.ob.set j (.box row')⟩) (hn : Nexts false B W0 m0 a W o next k) : o.wp P a W next Q := by
  obtain ⟨hB, ⟨ty, ws, hg, hr⟩, hmu⟩ := h.inv.obs j _ hj
  obtain ⟨cs, e, hd, hs, hf, h1, hrow⟩ := stRow_spec hr hx hst
  obtain ⟨ti, z, hi, hsize, _⟩ := (hT.of_ok hd).info
  have := run_store_box (P := P) (t := t) (v := a.eval x) (off := off) hg hi (by rw [e]; simp [hs, hsize]) (by rw [e]; simpa using hf) (by rw [e]; simpa using h1)
  rw [e] at this
  refine wp_skipped (w' := W.setRow (E.ρ j) (ws.take off ++ cs ++ ws.drop (off + cs.length)).toArray) ?_ (hn _ _ _ _ _ hk ⟨h.inv.setBox hj hrow, h.fr, ?_, h.grew, h.had, h.defers⟩ trivial (fun e => by cases e))
  · unfold execOp
    simp only [ho, hp.2]
    simp at this
    simp [this]
  · exact below_setRow h.below hB _

/-! ### Indexes -/
def indexP (ar : Ar) (st : St) (t : TypeId) (x i : SV) (k : SV → Prop) : Prop :=
  match i with
  | .s ci => match intOf ci with
    | some (_, n, l) => match (tt t).d with
      | .arr len e => match (tt e).d.ok with
        | true => match x with
          | .s (.ptr j off) => match l with
            | true => if 0 ≤ n ∧ n < (len : Int) then k (.s (.ptr j (off + n.toNat * (tt e).size))) else False
            | false => (True → 0 ≤ n ∧ n < (len : Int)) ∧ k (.s (.ept j off (tt e).size (ar.nat n) 0))
          | .s (.ipt row off) => match l with
            | true => if 0 ≤ n ∧ n < (len : Int) then k (.s (.ipt row (off + n.toNat * (tt e).size))) else False
            | false => match row, off with
              | [.r m ws], 0 => if m = len ∧ (tt e).size = 1 then ∃ w, 0 ≤ n ∧ ws[n.toNat]? = some w ∧ k (.s (.ipt [.c (.v w)] 0)) else False
              | _, _ => False
          | _ => False
        | false => False
      | .slice e => match (tt e).d.ok with
        | true => match x with
          | .s (.p (.sl xs _)) => ∃ row, 0 ≤ n ∧ xs[n.toNat]? = some row ∧ rlen row = (tt e).size ∧ k (.s (.ipt row 0))
          | .s (.own j) => match st.ob[j]? with
            | some (.arr xs _ sz _ _) => if sz = (tt e).size then (True → 0 ≤ n ∧ n < (xs.length : Int)) ∧ k (.s (.ept j 0 sz (ar.nat n) 0)) else False
            | _ => False
          | .s (.bsl j off m sz) => match l with
            | true => if sz = (tt e).size ∧ 0 ≤ n ∧ n < (m : Int) then k (.s (.ptr j (off + n.toNat * sz))) else False
            | false => if sz = (tt e).size then (True → 0 ≤ n ∧ n < (m : Int)) ∧ k (.s (.ept j off sz (ar.nat n) 0)) else False
          | _ => False
        | false => False
      | _ => False
    | none => False
  | _ => False

theorem run_indexAt_arr {P : Program} {W : World} {t e : TypeId} {len : Nat} {A : Addr} {kk : IntKind} {n : Int} {ti : TypeInfo} (ht : P.underlying t = some (.array len e)) (hi : P.info? e = some ti) (h : 0 ≤ n ∧ n < (len : Int)) :
    (Instr.indexAt t (.pointer (some A)) (.int kk n)).run P W = .ok (.pointer (some (A.add (n.toNat * ti.size)))) W := by
  simp [Instr.indexAt, asIntOf, run_underlying ht, Instr.sureAddr, sizeOf, typeInfo, hi, h]

theorem run_indexAt_slice {P : Program} {W : World} {t e : TypeId} {len cap : Nat} {A : Addr} {kk : IntKind} {n : Int} {ti : TypeInfo} (ht : P.underlying t = some (.slice e)) (hi : P.info? e = some ti) (h : 0 ≤ n ∧ n < (len : Int)) :
    (Instr.indexAt t (.slice (some A) len cap) (.int kk n)).run P W = .ok (.pointer (some (A.add (n.toNat * ti.size)))) W := by
  simp [Instr.indexAt, asIntOf, run_underlying ht, sizeOf, typeInfo, hi, h]

theorem indexP_spec {P : Program} (hT : TTok P) {B : Nat} {E : Env} {st : St} {a : Act} {W : World} {o : Oper} {t : TypeId} {x i : Operand} {k : SV → Prop}
    (h : Inv B E st.ob W) (hF : RepF E st.fr a.tmps.toList) (ho : o.op = .indexAddr t x i) (hk : indexP arS st t (st.ev 0 x) (st.ev 0 i) k) : ∃ sv v, k sv ∧ (∀ W, (execOp a.eval o).run P W = .ok (.value v) W) ∧ RepS E sv v := by
  have hx := RepS.ev hF 0 x
  have hi := RepS.ev hF 0 i
  generalize st.ev 0 x = sx at *
  generalize st.ev 0 i = si at *
  have fin : ∀ {v sv}, (∀ W, (Instr.indexAt t (a.eval x) (a.eval i)).run P W = .ok v W) → k sv → RepS E sv v → ∃ sv v, k sv ∧ (∀ W, (execOp a.eval o).run P W = .ok (.value v) W) ∧ RepS E sv v := fun {v sv} hr hk hs => by
    refine ⟨sv, v, hk, fun W => ?_, hs⟩
    unfold execOp
    simp only [ho]
    simp [hr W]
  unfold indexP at hk
  split at hk
  · rename_i ci
    split at hk
    · rename_i kk n l hci
      have ei := intOf_spec hi hci
      split at hk
      · rename_i len e hd
        obtain ⟨d, hd1, hd2⟩ := (hT.of_ok (t := t) (by rw [hd]; rfl)).desc
        rw [hd] at hd2
        cases d <;> try exact False.elim hd2
        obtain ⟨rfl, rfl⟩ := hd2
        split at hk
        · rename_i hoke
          obtain ⟨ti, z, hti, hsz, _⟩ := (hT.of_ok hoke).info
          split at hk
          · rename_i j off
            split at hk
            · split at hk
              · rename_i hc
                refine fin (fun W => by rw [hx.2, ei]; exact run_indexAt_arr hd1 hti hc) hk ⟨hx.1, ?_⟩
                rw [Addr.add_mid, hsz]
              · exact hk.elim
            · refine fin (fun W => by rw [hx.2, ei]; exact run_indexAt_arr hd1 hti (hk.1 trivial)) hk.2 ⟨hx.1, ?_⟩
              rw [Addr.add_mid, hsz]; rfl
          · rename_i row off
            split at hk
            · split at hk
              · rename_i hc
                obtain ⟨b, o', e', hrow⟩ := hx
                refine fin (fun W => by rw [e', ei]; exact run_indexAt_arr hd1 hti hc) hk ⟨b, o', ?_, hrow⟩
                rw [Addr.add_mid, hsz, Nat.add_assoc]
              · exact hk.elim
            · split at hk
              · rename_i m ws
                split at hk
                · rename_i hc
                  obtain ⟨rfl, hone⟩ := hc
                  obtain ⟨w, h0, hw, hk⟩ := hk
                  obtain ⟨b, o', e', hrow⟩ := hx
                  simp only [RepC, RepP, and_true] at hrow
                  have hlt : n.toNat < ws.length := (List.getElem?_eq_some_iff.1 hw).1
                  have hcell := hrow.2 _ _ hw
                  refine fin (fun W => by rw [e', ei]; exact run_indexAt_arr hd1 hti ⟨h0, by omega⟩) hk ⟨b, o' + n.toNat, ?_, ?_⟩
                  · rw [Addr.add_mid, hsz, hone]; simp
                  · simp only [RepC, RepP, RepV, and_true]
                    exact ⟨w, hcell.1, rfl, hcell.2⟩
                · exact hk.elim
              · exact hk.elim
          · exact hk.elim
        · exact hk.elim
      · rename_i e hd
        obtain ⟨d, hd1, hd2⟩ := (hT.of_ok (t := t) (by rw [hd]; rfl)).desc
        rw [hd] at hd2
        cases d <;> try exact False.elim hd2
        cases hd2
        split at hk
        · rename_i hoke
          obtain ⟨ti, z, hti, hsz, _⟩ := (hT.of_ok hoke).info
          split at hk
          · rename_i xs s
            obtain ⟨row, h0, hrow, hlen, hk⟩ := hk
            have hx' : RepV E.μ (.sl xs s) (a.eval x) := hx
            rw [RepV] at hx'
            obtain ⟨ad, cap, ex, hcap, hel⟩ := hx'
            have hlt : n.toNat < xs.length := (List.getElem?_eq_some_iff.1 hrow).1
            rcases hel with ⟨rfl, _⟩ | ⟨b, o', sz, rfl, hE, _⟩
            · simp at hlt
            · obtain ⟨hl, hc⟩ := hE.get n.toNat row hrow
              refine fin (fun W => by rw [ex, ei]; exact run_indexAt_slice hd1 hti ⟨h0, by omega⟩) hk ⟨b, o' + n.toNat * sz, ?_, hc⟩
              rw [Addr.add_mid, Nat.add_zero, hsz, ← hlen, hl]
          · rename_i j
            split at hk
            · rename_i xs e' sz by_ wr hj
              split at hk
              · rename_i hszz
                obtain ⟨_, C, h1, h2, h3⟩ := h.obs j _ hj
                have hc := hk.1 trivial
                rcases h1.2 with ⟨hv, hn0⟩ | ⟨g, cap, cur, hv, _⟩
                · omega
                · have hg : (E.ov j).ownBlock = some g := by rw [hv]; rfl
                  refine fin (fun W => by rw [hx.2.1, hv, ei]; exact run_indexAt_slice hd1 hti hc) hk.2 ⟨hx.1, ?_⟩
                  rw [Addr.add_mid, ← (h3 g hg).1, hsz, ← hszz]; rfl
              · exact hk.elim
            · exact hk.elim
          · rename_i j off m sz
            obtain ⟨hjn, o', cap, ex, hcap, ho'⟩ := hx
            split at hk
            · split at hk
              · rename_i hc
                obtain ⟨hszz, hc⟩ := hc
                refine fin (fun W => by rw [ex, ei]; exact run_indexAt_slice hd1 hti hc) hk ⟨hjn, ?_⟩
                rw [Addr.add_mid, ho' (by omega), hsz, ← hszz]
              · exact hk.elim
            · split at hk
              · rename_i hszz
                have hc := hk.1 trivial
                refine fin (fun W => by rw [ex, ei]; exact run_indexAt_slice hd1 hti hc) hk.2 ⟨hjn, ?_⟩
                rw [Addr.add_mid, ho' (by omega), hsz, ← hszz]; rfl
              · exact hk.elim
          · exact hk.elim
        · exact hk.elim
      · exact hk.elim
    · exact hk.elim
  · exact hk.elim

/-! ### Lengths -/
def lenSV (ar : Ar) (st : St) (t : TypeId) (x : SV) : Option SV :=
  match (tt t).d with
  | .slice _ => match x with
    | .s (.p (.sl xs _)) => some (.s (.p (.v (.int .i64 (ar.len xs)))))
    | .s .nil => some (.s (.lit .i64 0))
    | .s (.own j) => match st.ob[j]? with
      | some (.arr xs _ _ _ _) => some (.s (.p (.v (.int .i64 (ar.len xs)))))
      | _ => none
    | .s (.bsl _ _ n _) => some (.s (.lit .i64 (n : Int)))
    | .s (.stl xs) => some (.s (.p (.v (.int .i64 (ar.len xs)))))
    | _ => none
  | .arr n _ => match x with
    | .a _ => some (.s (.lit .i64 (n : Int)))
    | _ => none
  | _ => none

theorem lenSV_spec {P : Program} (hT : TTok P) {B : Nat} {E : Env} {st : St} {a : Act} {W : World} {o : Oper} {t : TypeId} {x : Operand} {sv : SV} (h : Inv B E st.ob W) (hF : RepF E st.fr a.tmps.toList)
    (ho : o.op = .call { callee := .builtin .len, args := #[x], argTypes := #[t] }) (hv : lenSV arS st t (st.ev t x) = some sv) : ∃ v, (∀ W, (execOp a.eval o).run P W = .ok (.value v) W) ∧ RepS E sv v := by
  have hx := RepS.ev hF t x
  generalize st.ev t x = sx at *
  have run : ∀ v, (∀ W, (Builtin.len_ #[t] o.type #[a.eval x]).run P W = .ok v W) → ∀ W, (execOp a.eval o).run P W = .ok (.value v) W := fun v hr W => by
    unfold execOp
    simp only [ho]
    simp [resolve, invoke, builtin, hr W]
  unfold lenSV at hv
  split at hv
  · rename_i e hd
    obtain ⟨d, hd1, hd2⟩ := (hT.of_ok (t := t) (by rw [hd]; rfl)).desc
    rw [hd] at hd2
    cases d <;> try exact False.elim hd2
    have lenS : ∀ ad n cap, ∀ W, (Builtin.len_ #[t] o.type #[.slice ad n cap]).run P W = .ok (.int .i64 (n : Int)) W := fun ad n cap W => by
      simp [Builtin.len_, run_underlying hd1, goInt]
    split at hv
    · cases hv
      rename_i xs s
      have hx' : RepV E.μ (.sl xs s) (a.eval x) := hx
      rw [RepV] at hx'
      obtain ⟨ad, cap, ex, _⟩ := hx'
      exact ⟨_, run _ (by rw [ex]; exact lenS _ _ _), rfl, rfl⟩
    · cases hv
      have ex : a.eval x = .slice none 0 0 := hx
      exact ⟨_, run _ (by rw [ex]; exact lenS _ _ _), rfl⟩
    · rename_i j
      split at hv
      · rename_i xs e' sz by_ wr hj
        cases hv
        obtain ⟨_, C, h1, _⟩ := h.obs j _ hj
        have ex : ∃ ad cap, E.ov j = .slice ad xs.length cap := by
          rcases h1.2 with ⟨hv, hn0⟩ | ⟨g, cap, cur, hv, _⟩
          · exact ⟨none, 0, by rw [hv, hn0]⟩
          · exact ⟨_, _, hv⟩
        obtain ⟨ad, cap, ex⟩ := ex
        exact ⟨_, run _ (by rw [hx.2.1, ex]; exact lenS _ _ _), rfl, rfl⟩
      · cases hv
    · cases hv
      obtain ⟨_, o', cap, ex, _⟩ := hx
      exact ⟨_, run _ (by rw [ex]; exact lenS _ _ _), rfl⟩
    · cases hv
      obtain ⟨ad, cap, ex⟩ := hx
      exact ⟨_, run _ (by rw [ex]; exact lenS _ _ _), rfl, rfl⟩
    · cases hv
  · rename_i n e hd
    obtain ⟨d, hd1, hd2⟩ := (hT.of_ok (t := t) (by rw [hd]; rfl)).desc
    rw [hd] at hd2
    cases d <;> try exact False.elim hd2
    obtain ⟨rfl, rfl⟩ := hd2
    split at hv
    · cases hv
      obtain ⟨ws, ex, _⟩ := hx
      refine ⟨_, run _ fun W => ?_, rfl⟩
      rw [ex]
      simp [Builtin.len_, run_underlying hd1, goInt]
    · cases hv
  · cases hv

end Go.Eng
