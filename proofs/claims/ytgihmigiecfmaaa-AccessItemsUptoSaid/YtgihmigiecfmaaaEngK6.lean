/-
  The operations, go on: an array's element at an index that is not known; copy into, clear of, what stands from a bound on in an array of a box.
-/
import Derived.Test.YtgihmigiecfmaaaEngK4
import Derived.Test.YtgihmigiecfmaaaEngK5
namespace Go.Eng
open Go Go.RowKit

/-! ### An element of an array that is a value -/
def arrAtP (x i : SV) (n : Nat) (e : TypeId) (K : SV → Prop) : Prop :=
  match x with
  | .a [.r m ws] => match i with
    | .s ci => match intOf ci with
      | some (_, j, _) => if m = n ∧ (tt e).d.ok = true ∧ (tt e).size = 1 ∧ (tt e).d.agg = false then ∃ w, (True → 0 ≤ j ∧ ws[j.toNat]? = some w) ∧ K (.s (.p (.v w))) else False
      | none => False
    | _ => False
  | _ => False

theorem arrAtP_spec {P : Program} (hT : TTok P) {E : Env} {st : St} {a : Act} {o : Oper} {t e : TypeId} {n : Nat} {x i : Operand} {K : SV → Prop} (hd : (tt t).d = .arr n e) (hF : RepF E st.fr a.tmps.toList) (ho : o.op = .index t x i)
    (h : arrAtP (st.ev t x) (st.ev 0 i) n e K) : ∃ sv v, K sv ∧ (∀ W, (execOp a.eval o).run P W = .ok (.value v) W) ∧ RepS E sv v := by
  have hx := RepS.ev hF t x
  have hi := RepS.ev hF 0 i
  generalize st.ev t x = sx at *
  generalize st.ev 0 i = si at *
  obtain ⟨d, hd1, hd2⟩ := (hT.of_ok (t := t) (by rw [hd]; rfl)).desc
  rw [hd] at hd2
  cases d <;> try exact False.elim hd2
  obtain ⟨rfl, rfl⟩ := hd2
  unfold arrAtP at h
  split at h
  · rename_i m ws
    split at h
    · rename_i ci
      split at h
      · rename_i k j l hci
        split at h
        · rename_i hc
          obtain ⟨rfl, hok, hsz, hag⟩ := hc
          obtain ⟨w, hs, hK⟩ := h
          obtain ⟨h0, hw⟩ := hs trivial
          have ei := intOf_spec hi hci
          obtain ⟨us, ex, hl, ho1, us', eu, hr⟩ := hx
          rw [show us' = [] from hr, List.append_nil] at eu
          subst eu
          have hwo := ho1 w (List.mem_of_getElem? hw)
          obtain ⟨de, he1, he2⟩ := (hT.of_ok hok).desc
          obtain ⟨ti, z, hti, hsize, _⟩ := (hT.of_ok hok).info
          have hrow : de.isRow = false := by rw [fits_agg he2]; exact hag
          have hlt : j.toNat < us.length := (List.getElem?_eq_some_iff.1 hw).1
          refine ⟨_, w, hK, fun W => ?_, rfl, hwo⟩
          have hag2 : (isAgg e).run P W = .ok false W := by
            unfold isAgg
            rw [Sem.run_bind, run_underlying he1 W]
            cases de <;> simp_all [TypeDesc.isRow]
          unfold execOp
          simp only [ho, ex, ei]
          simp [Instr.index, asIntOf, run_underlying hd1, part, sizeOf, typeInfo, hti, hag2, hsize, hsz, h0, hw]
          omega
        · exact h.elim
      · exact h.elim
    · exact h.elim
  · exact h.elim


/-! ### Copy into, and clear of, the rest of an array in a box -/
theorem rsegset_self : ∀ {row row' : List Seg} {b n : Nat} {ws : List Value}, rseg row b = some (n, ws) → rsegset row b ws = some row' → row' = row
  | [], _, _, _, _, h, _ => by cases h
  | .c x :: rest, _, b, n, ws, h, h' => by
    simp only [rseg] at h
    simp only [rsegset] at h'
    split at h
    · cases h
    · rename_i hb
      rw [if_neg hb] at h'
      split at h'
      · rename_i l hl
        cases h'
        rw [rsegset_self h hl]
      · cases h'
  | .r m vs :: rest, _, b, n, ws, h, h' => by
    simp only [rseg] at h
    simp only [rsegset] at h'
    split at h
    · rename_i hb
      cases h
      rw [if_pos hb] at h'
      cases h'
      rfl
    · rename_i hb
      rw [if_neg hb] at h'
      split at h
      · rename_i hle
        rw [if_pos hle] at h'
        split at h'
        · rename_i l hl
          cases h'
          rw [rsegset_self h hl]
        · cases h'
      · cases h

theorem splice_mid {us ws cs : List Value} {base lo n : Nat} (hwl : ws.length = n) (hfit : base + n ≤ us.length) (hwq : ∀ j, j < n → us[base + j]? = ws[j]?) (hlo : lo + cs.length ≤ n) :
    us.take base ++ (ws.take lo ++ (cs ++ ws.drop (lo + cs.length))) ++ us.drop (base + n) = us.take (base + lo) ++ cs ++ us.drop (base + lo + cs.length) := by
  have e : us = us.take base ++ (ws ++ us.drop (base + n)) := by
    have h1 : (us.drop base).take n = ws := by
      refine List.ext_getElem? fun q => ?_
      rw [List.getElem?_take]
      split
      · rename_i hq; rw [List.getElem?_drop]; exact hwq q hq
      · rw [List.getElem?_eq_none (by omega)]
    rw [← h1, ← List.drop_drop, List.take_append_drop, List.take_append_drop]
  have hb : (us.take base).length = base := by rw [List.length_take]; omega
  have t1 : us.take (base + lo) = us.take base ++ ws.take lo := by
    conv => lhs; rw [e]
    rw [List.take_append, hb, List.take_of_length_le (by omega), Nat.add_sub_cancel_left, List.take_append_of_le_length (by omega)]
  have t2 : us.drop (base + lo + cs.length) = ws.drop (lo + cs.length) ++ us.drop (base + n) := by
    conv => lhs; rw [e]
    rw [List.drop_append, hb, List.drop_of_length_le (by omega), List.nil_append, show base + lo + cs.length - base = lo + cs.length by omega, List.drop_append_of_le_length (by omega)]
  rw [t1, t2]
  simp only [List.append_assoc]

theorem run_copy_at {P : Program} (w : World) (dT sT ty elem : TypeId) (g o dLen dCap : Nat) (a : Addr) (sLen sCap n : Nat) (cur : Array Value) (t : TypeId) (cs : List Value) (i : TypeInfo)
    (hu : P.underlying dT = some (.slice elem)) (hi : P.info? elem = some i) (hg : w.heap[g]? = some (.cells cur t (0, 0))) (hn : n = min sLen dLen) (hl : cs.length = n * i.size)
    (hsrc : ∀ j v, cs[j]? = some v → w.cell? (a.add j) = some v) (hfit : o + cs.length ≤ cur.size) (h1 : ∀ v ∈ cs, v.oneCell' = true) :
    (Builtin.copy_ #[dT, sT] ty #[.slice (some ⟨g, o, none⟩) dLen dCap, .slice (some a) sLen sCap]).run P w =
      .ok (goInt n) (w.setRow g (cur.toList.take o ++ cs ++ cur.toList.drop (o + cs.length)).toArray) := by
  have h2 := run_firstCells_some (P := P) w i.size n a sLen sCap cs hl hsrc
  have hst := run_storeCells_at P g o t cs 0 cur w hg (by simpa using hfit) h1
  simp only [Nat.add_zero] at hst
  simp [Builtin.copy_, run_underlying hu, Builtin.lenOf, sizeOf, typeInfo, hi, show Nat.min sLen dLen = n from hn.symm, h2, hst]

def copyQ (ar : Ar) (st : St) (t : TypeId) (j base n lo : Nat) (x : SV) (k : SV → St → Prop) : Prop :=
  match (tt t).d with
  | .slice e => if (tt e).d.ok = true ∧ (tt e).size = 1 then
      match x.use ar st.ob with
      | some (.s (.sl ys _), ob') => match ob'[j]? with
        | some (.box row) => match rseg row base with
          | some (m, ws) => match rsegset row base (ar.cpw ws lo ys) with
            | some row' => if m = n then (True → ∀ y ∈ ys, ∃ w, y = [.c (.v w)]) ∧ k (.s (.p (.v (.int .i64 (ar.cpn ys n lo))))) ⟨st.fr, ob'.set j (.box row')⟩ else False
            | none => False
          | none => False
        | _ => False
      | _ => False
    else False
  | _ => False

theorem copyQ_spec {P : Program} (hT : TTok P) {B : Nat} {W0 : World} {m0 : Mem} {E : Env} {st : St} {a : Act} {W : World} {o : Oper} {t t' : TypeId} {d x : Operand} {j base n lo : Nat} {k : SV → St → Prop} {next : Act → World → Prop} {Q : Exit → Act → World → Prop}
    (h : Sim B W0 m0 E st a W) (ho : o.op = .call { callee := .builtin .copy, args := #[d, x], argTypes := #[t, t'] }) (hd0 : ∀ E1, E.le E1 → lo ≤ n ∧ ∃ o' cap, a.eval d = .slice (some ⟨E1.ρ j, o', none⟩) (n - lo) cap ∧ (lo < n → o' = base + lo)) (hk : copyQ arS st t j base n lo (st.ev 0 x) k) (hn : Nexts false B W0 m0 a W o next k) : o.wp P a W next Q := by
  have hx := RepS.ev h.fr 0 x
  generalize st.ev 0 x = sx at *
  have fin : ∀ v W', (Builtin.copy_ #[t, t'] o.type #[a.eval d, a.eval x]).run P W = .ok v W' → next (a.put o.dst v) W' → o.wp P a W next Q := fun v W' hr hnx => by
    refine wp_value (w' := W') (v := v) ?_ hnx
    unfold execOp
    simp only [ho]
    simp [resolve, invoke, builtin, hr]
  unfold copyQ at hk
  split at hk
  · rename_i e hdd
    obtain ⟨dd, hd1, hd2⟩ := (hT.of_ok (t := t) (by rw [hdd]; rfl)).desc
    rw [hdd] at hd2
    cases dd <;> try exact False.elim hd2
    cases hd2
    split at hk
    · rename_i hok
      obtain ⟨hok, hone⟩ := hok
      split at hk
      · rename_i ys sp ob' hu
        obtain ⟨E1, e1, i1, r1⟩ := SV.use_spec h.inv hx hu
        have h1 := h.ext e1 i1
        have hd3 := hd0 E1 e1.le
        split at hk
        · rename_i row hj
          split at hk
          · rename_i m ws hseg
            split at hk
            · rename_i row' hset
              split at hk
              · rename_i hmn
                subst hmn
                obtain ⟨hside, hk⟩ := hk
                have hrows := hside trivial
                obtain ⟨ti, z, hti, hs1, _⟩ := (hT.of_ok hok).info
                have hr1 : RepV E1.μ (.sl ys sp) (a.eval x) := r1
                rw [RepV] at hr1
                obtain ⟨ad, cap, ew, hcap, hel⟩ := hr1
                obtain ⟨hB, ⟨ty, us, hg, hr⟩, hmu⟩ := i1.obs j _ hj
                obtain ⟨hwl, hfit, hcell⟩ := hr.seg hseg
                obtain ⟨hlo, o', dcap, ed, ho'⟩ := hd3
                have hwq : ∀ q, q < m → us[base + q]? = ws[q]? := fun q hq => by
                  have hw : ws[q]? = some (ws[q]'(by omega)) := List.getElem?_eq_getElem _
                  rw [hw]; exact (hcell q _ hw).1
                have hlt := (List.getElem?_eq_some_iff.1 hj).1
                have hcpn : arS.cpn ys m lo = ((min ys.length (m - lo) : Nat) : Int) := rfl
                by_cases h0 : min ys.length (m - lo) = 0
                · have ews : arS.cpw ws lo ys = ws := by
                    simp only [arS, hwl]
                    rw [h0, Nat.add_zero]
                    have : (valsOf ys).take (m - lo) = [] := by
                      refine List.eq_nil_of_length_eq_zero ?_
                      rw [List.length_take, valsOf, List.length_map]; omega
                    rw [this, List.nil_append, List.take_append_drop]
                  rw [ews] at hset
                  have hrow := rsegset_self hseg hset
                  subst hrow
                  have hob : ob'.set j (.box row') = ob' := by
                    refine List.ext_getElem? fun q => ?_
                    rw [List.getElem?_set]
                    split
                    · rename_i hq; subst hq; first | exact hj.symm | rw [if_pos hlt, hj]
                    · rfl
                  rw [hob, hcpn, h0] at hk
                  exact fin _ W (by rw [ed, ew]; exact run_copy_zero W t t' o.type e _ ad _ _ _ _ ti hd1 hti h0) (hn _ _ E1 _ _ hk h1 ⟨rfl, rfl⟩ (fun e => by cases e))
                · rcases hel with ⟨e0, _⟩ | ⟨b, off, sz', rfl, hE, _⟩
                  · rw [e0] at h0; simp at h0
                  · have hpos : 0 < ys.length := by omega
                    have hlom : lo < m := by omega
                    have hszz : sz' = 1 := by
                      have hx0 : ys[0]? = some (ys[0]'hpos) := List.getElem?_eq_getElem _
                      rw [← (hE.get 0 _ hx0).1]
                      obtain ⟨w, hw⟩ := hrows _ (List.mem_of_getElem? hx0)
                      rw [hw]; rfl
                    subst hszz
                    obtain ⟨cs, hcs⟩ : ∃ cs, cs = (valsOf ys).take (m - lo) := ⟨_, rfl⟩
                    have hcl : cs.length = min ys.length (m - lo) := by rw [hcs, List.length_take, valsOf, List.length_map]; exact Nat.min_comm _ _
                    have hcv : ∀ q v, cs[q]? = some v → E1.μ b (off + q) = some v ∧ v.oneCell' = true := fun q v hq => by
                      rw [hcs, List.getElem?_take] at hq
                      split at hq
                      · rw [valsOf, List.getElem?_map, Option.map_eq_some_iff] at hq
                        obtain ⟨y, hy, rfl⟩ := hq
                        obtain ⟨w, rfl⟩ := hrows y (List.mem_of_getElem? hy)
                        have h5 := (hE.get q _ hy).2
                        rw [Nat.mul_one] at h5
                        simp only [RepC, RepP, RepV, and_true] at h5
                        obtain ⟨w', h6, rfl, h7⟩ := h5
                        exact ⟨h6, h7⟩
                      · cases hq
                    have ews : arS.cpw ws lo ys = ws.take lo ++ (cs ++ ws.drop (lo + cs.length)) := by
                      simp only [arS, hwl]
                      rw [hcl, hcs]
                    have hall : ∀ v ∈ cs, v.oneCell' = true := fun v hv => by
                      obtain ⟨q, hq, rfl⟩ := List.getElem_of_mem hv
                      exact (hcv q _ (List.getElem?_eq_getElem hq)).2
                    have hwone : ∀ w ∈ arS.cpw ws lo ys, w.oneCell' = true := fun w hw => by
                      have hwsone : ∀ w ∈ ws, w.oneCell' = true := fun w hw => by
                        obtain ⟨q, hq, rfl⟩ := List.getElem_of_mem hw
                        exact (hcell q _ (List.getElem?_eq_getElem hq)).2
                      rw [ews] at hw
                      rcases List.mem_append.1 hw with hw | hw
                      · exact hwsone w (List.mem_of_mem_take hw)
                      · rcases List.mem_append.1 hw with hw | hw
                        · exact hall w hw
                        · exact hwsone w (List.mem_of_mem_drop hw)
                    have hwlen : (arS.cpw ws lo ys).length = m := by
                      rw [ews]; simp [hwl, hcl]; omega
                    have hnew := hr.segset hseg hset hwlen hwone
                    rw [ews, splice_mid hwl hfit hwq (by omega)] at hnew
                    have hrun := run_copy_at (P := P) W t t' o.type e (E1.ρ j) (base + lo) (m - lo) dcap ⟨b, off, none⟩ ys.length cap (min ys.length (m - lo)) us.toArray ty cs ti hd1 hti hg rfl (by rw [hcl, hs1, hone, Nat.mul_one])
                      (fun q v hq => by rw [Addr.add_mid]; exact i1.mu _ _ _ (hcv q v hq).1) (by simp; omega) hall
                    rw [List.toList_toArray] at hrun
                    rw [hcpn] at hk
                    refine fin _ _ (by rw [ed, ew, ho' hlom]; exact hrun) (hn _ _ E1 _ _ hk ⟨i1.setBox hj hnew, h1.fr, below_setRow h1.below hB _, h1.grew, h1.had, h1.defers⟩ ⟨rfl, rfl⟩ (fun e => by cases e))
              · exact hk.elim
            · exact hk.elim
          · exact hk.elim
        · exact hk.elim
      · exact hk.elim
    · exact hk.elim
  · exact hk.elim

def clearQ (ar : Ar) (st : St) (t : TypeId) (x : SV) (k : SV → St → Prop) : Prop :=
  match (tt t).d with
  | .slice e => match (tt e).zero with
    | [.c (.v z)] => if (tt e).d.ok = true ∧ (tt e).size = 1 then
        match x with
        | .s (.psl j base n lo) => match st.ob[j]? with
          | some (.box row) => match rseg row base with
            | some (m, ws) => match rsegset row base (ar.clw ws lo z) with
              | some row' => if m = n then k (.t []) ⟨st.fr, st.ob.set j (.box row')⟩ else False
              | none => False
            | none => False
          | _ => False
        | _ => False
      else False
    | _ => False
  | _ => False

theorem clearQ_spec {P : Program} (hT : TTok P) {B : Nat} {W0 : World} {m0 : Mem} {E : Env} {st : St} {a : Act} {W : World} {o : Oper} {t : TypeId} {x : Operand} {k : SV → St → Prop} {next : Act → World → Prop} {Q : Exit → Act → World → Prop}
    (h : Sim B W0 m0 E st a W) (ho : o.op = .call { callee := .builtin .clear, args := #[x], argTypes := #[t] }) (hk : clearQ arS st t (st.ev 0 x) k) (hn : Nexts false B W0 m0 a W o next k) : o.wp P a W next Q := by
  have hx := RepS.ev h.fr 0 x
  generalize st.ev 0 x = sx at *
  have fin : ∀ v W', (Builtin.clear_ #[t] o.type #[a.eval x]).run P W = .ok v W' → next (a.put o.dst v) W' → o.wp P a W next Q := fun v W' hr hnx => by
    refine wp_value (w' := W') (v := v) ?_ hnx
    unfold execOp
    simp only [ho]
    simp [resolve, invoke, builtin, hr]
  unfold clearQ at hk
  split at hk
  · rename_i e hdd
    obtain ⟨dd, hd1, hd2⟩ := (hT.of_ok (t := t) (by rw [hdd]; rfl)).desc
    rw [hdd] at hd2
    cases dd <;> try exact False.elim hd2
    cases hd2
    split at hk
    · rename_i z hz
      split at hk
      · rename_i hok
        obtain ⟨hok, hone⟩ := hok
        obtain ⟨ti, zv, hti, hs1, _, hzero, hzv, _⟩ := (hT.of_ok hok).info
        rw [hz] at hzv
        simp only [zvals] at hzv
        split at hzv
        · rename_i hzo
          simp only [Option.map_some, Option.some.injEq] at hzv
          split at hk
          · rename_i j base n lo
            split at hk
            · rename_i row hj
              split at hk
              · rename_i m ws hseg
                split at hk
                · rename_i row' hset
                  split at hk
                  · rename_i hmn
                    subst hmn
                    obtain ⟨hB, ⟨ty, us, hg, hr⟩, hmu⟩ := h.inv.obs j _ hj
                    obtain ⟨hwl, hfit, hcell⟩ := hr.seg hseg
                    obtain ⟨hjn, hlo, o', ed, ho'⟩ := hx
                    have hwq : ∀ q, q < m → us[base + q]? = ws[q]? := fun q hq => by
                      have hw : ws[q]? = some (ws[q]'(by omega)) := List.getElem?_eq_getElem _
                      rw [hw]; exact (hcell q _ hw).1
                    have hlt := (List.getElem?_eq_some_iff.1 hj).1
                    have hdone : RepS E (.t []) (.tuple #[]) := ⟨[], rfl, rfl⟩
                    by_cases h0 : m - lo = 0
                    · have ews : arS.clw ws lo z = ws := by
                        simp only [arS, hwl]
                        rw [h0, List.replicate_zero, List.append_nil]
                        exact List.take_of_length_le (by omega)
                      rw [ews] at hset
                      have hrow := rsegset_self hseg hset
                      subst hrow
                      have hob : st.ob.set j (.box row') = st.ob := by
                        refine List.ext_getElem? fun q => ?_
                        rw [List.getElem?_set]
                        split
                        · rename_i hq; subst hq; first | exact hj.symm | rw [if_pos hlt, hj]
                        · rfl
                      rw [hob] at hk
                      refine fin _ W ?_ (hn _ _ E _ _ hk h hdone (fun e => by cases e))
                      rw [ed, h0]
                      simp [Builtin.clear_, run_underlying hd1]
                    · obtain ⟨cs, hcs⟩ : ∃ cs, cs = List.replicate (m - lo) z := ⟨_, rfl⟩
                      have hcl : cs.length = m - lo := by rw [hcs, List.length_replicate]
                      have ews : arS.clw ws lo z = ws.take lo ++ (cs ++ ws.drop (lo + cs.length)) := by
                        simp only [arS, hwl]
                        rw [hcl, hcs, show lo + (m - lo) = m by omega, List.drop_of_length_le (by omega), List.append_nil]
                      have hall : ∀ v ∈ cs, v.oneCell' = true := fun v hv => by
                        rw [hcs] at hv; rw [(List.mem_replicate.1 hv).2]; exact hzo
                      have hwone : ∀ w ∈ arS.clw ws lo z, w.oneCell' = true := fun w hw => by
                        have hwsone : ∀ w ∈ ws, w.oneCell' = true := fun w hw => by
                          obtain ⟨q, hq, rfl⟩ := List.getElem_of_mem hw
                          exact (hcell q _ (List.getElem?_eq_getElem hq)).2
                        rw [ews] at hw
                        rcases List.mem_append.1 hw with hw | hw
                        · exact hwsone w (List.mem_of_mem_take hw)
                        · rcases List.mem_append.1 hw with hw | hw
                          · exact hall w hw
                          · exact hwsone w (List.mem_of_mem_drop hw)
                      have hwlen : (arS.clw ws lo z).length = m := by
                        rw [ews]; simp [hwl, hcl]; omega
                      have hnew := hr.segset hseg hset hwlen hwone
                      rw [ews, splice_mid hwl hfit hwq (by omega)] at hnew
                      have hst := run_storeCells_at P (E.ρ j) (base + lo) ty cs 0 us.toArray W hg (by simp; omega) hall
                      simp only [Nat.add_zero] at hst
                      refine fin _ (W.setRow (E.ρ j) (us.take (base + lo) ++ cs ++ us.drop (base + lo + cs.length)).toArray) ?_ (hn _ _ E _ _ hk ⟨h.inv.setBox hj hnew, h.fr, below_setRow h.below hB _, h.grew, h.had, h.defers⟩ hdone (fun e => by cases e))
                      rw [ed, ho' (by omega)]
                      have hzc : (Builtin.zeroCells zv.cells (m - lo)).toList = cs := by
                        have hzl : zv.cells.toList = [z] := by rw [← hzv]
                        have := madeCells_flat zv.cells (m - lo)
                        rw [hzl] at this
                        rw [hcs]
                        refine Eq.trans ?_ (this.trans ?_)
                        · rfl
                        · clear hcl; induction (m - lo) with
                          | zero => rfl
                          | succ q ih => rw [List.replicate_succ, List.replicate_succ, List.flatten_cons, ih]; rfl
                      obtain ⟨q, hq⟩ : ∃ q, m - lo = q + 1 := ⟨m - lo - 1, by omega⟩
                      rw [hq] at hzc ⊢
                      simp [Builtin.clear_, run_underlying hd1, zeroValue, typeInfo, hti, hzero, hzc, hst]
                  · exact hk.elim
                · exact hk.elim
              · exact hk.elim
            · exact hk.elim
          · exact hk.elim
        · cases hzv
      · exact hk.elim
    · exact hk.elim
  · exact hk.elim

end Go.Eng
