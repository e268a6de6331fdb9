/-
  What a function's results are; function values; slices that are laid out at once.
-/
import Derived.Test.YtgihmigiecfmaaaEngQ8
import Derived.Great.BuildSlice
namespace Go.Eng
open Go Go.RowKit

structure Kt where
  n : St → Prop
  x : Nat → St → Prop
  r : St → Prop
  g : Nat → St → Prop

/-! ### Functions -/
def resSV (st : St) : ResultVar → Option SV
  | .tmp t => st.fr[t]?
  | .cell p t => match st.fr[p]? with
    | some sp => match addrRow st sp with
      | some (row, off) => ldRow (tt t) row off
      | none => none
    | none => none

def resAll (st : St) : List ResultVar → Option (List SV)
  | [] => some []
  | r :: l => match resSV st r with
    | some v => match resAll st l with
      | some vs => some (v :: vs)
      | none => none
    | none => none

/-- What a result is. -/
def rv (tmps : Array Value) : ResultVar → Sem Value
  | .tmp t => pure (tmps.getD t undef)
  | .cell p t => do loadVar t (← asAddr (tmps.getD p undef))

theorem run_results {P : Program} {W : World} {fn : Func} {tmps : Array Value} {vs : List Value} (h : (fn.results.toList.mapM (rv tmps)).run P W = .ok vs W) :
    (results fn tmps).run P W = .ok (if h : vs.toArray.size = 1 then vs.toArray[0] else .tuple vs.toArray) W := by
  have e : results fn tmps = (do
    let vs ← fn.results.mapM (rv tmps)
    pure (if h : vs.size = 1 then vs[0] else .tuple vs)) := rfl
  rw [e, ← Array.toArray_toList (xs := fn.results), List.mapM_toArray]
  simp only [Sem.run_bind, map_eq_pure_bind, h, Result.andThen_ok, Sem.run_pure]

theorem resSV_spec {P : Program} (hT : TTok P) {B : Nat} {E : Env} {st : St} {a : Act} {W : World} (h : Inv B E st.ob W) (hF : RepF E st.fr a.tmps.toList) {r : ResultVar} {sv : SV} (hr : resSV st r = some sv) :
    ∃ v, (rv a.tmps r).run P W = .ok v W ∧ RepS E sv v := by
  have slot : ∀ t sv, st.fr[t]? = some sv → RepS E sv (a.tmps.getD t undef) := fun t sv ht => by
    obtain ⟨w, hw, hs⟩ := hF.get t sv ht
    have : a.tmps.getD t undef = w := by
      rw [Array.getElem?_toList] at hw
      simp [hw]
    rw [this]; exact hs
  cases r with
  | tmp t => exact ⟨_, by simp only [rv, Sem.run_pure], slot t sv hr⟩
  | cell p t =>
    simp only [resSV] at hr
    split at hr
    · rename_i sp hp
      split at hr
      · rename_i row off ha
        obtain ⟨b, o, ws, e, hg, hc⟩ := addrRow_spec h (slot p sp hp) ha
        obtain ⟨v, h1, h2⟩ := run_load_row (P := P) hT hg hc hr
        refine ⟨v, ?_, h2⟩
        simp only [Instr.loadAt, Instr.sureAddr, Sem.run_bind, Sem.run_pure, Result.andThen_ok] at h1
        simp only [rv, e]
        simp [asAddr, h1 W (Keeps.refl W)]
      · cases hr
    · cases hr

theorem resAll_spec {P : Program} (hT : TTok P) {B : Nat} {E : Env} {st : St} {a : Act} {W : World} (h : Inv B E st.ob W) (hF : RepF E st.fr a.tmps.toList) : ∀ {rs : List ResultVar} {svs : List SV}, resAll st rs = some svs →
    ∃ vs : List Value, (rs.mapM (rv a.tmps)).run P W = .ok vs W ∧ RepF E svs vs
  | [], svs, hr => by cases hr; exact ⟨[], by simp, rfl⟩
  | r :: l, svs, hr => by
    simp only [resAll] at hr
    split at hr
    · rename_i v h1
      split at hr
      · rename_i vs h2
        cases hr
        obtain ⟨w, hw, hs⟩ := resSV_spec (P := P) hT h hF h1
        obtain ⟨ws, hws, hss⟩ := resAll_spec hT h hF h2
        refine ⟨w :: ws, ?_, w, ws, rfl, hs, hss⟩
        rw [List.mapM_cons]
        simp only [Sem.run_bind, hw, Result.andThen_ok, hws, Sem.run_pure]
      · cases hr
    · cases hr

/-! ### Function values -/
def capsOf (st : St) : List Operand → Option (List (Nat × Nat))
  | [] => some []
  | x :: l => match st.ev 0 x with
    | .s (.ptr k off) => match capsOf st l with
      | some cs => some ((k, off) :: cs)
      | none => none
    | _ => none

def funcSV (st : St) (fn : Fn) (first caps : List Operand) : Option SV :=
  match fn with
  | .func f => match first with
    | [] => match capsOf st caps with
      | some [] => some (.s (.p (.v (.func (.func f) #[] #[]))))
      | some (c :: cs) => some (.s (.clo f (c :: cs)))
      | none => none
    | _ => none
  | _ => none

theorem capsOf_spec {E : Env} {st : St} {a : Act} (hF : RepF E st.fr a.tmps.toList) : ∀ {xs : List Operand} {cs : List (Nat × Nat)}, capsOf st xs = some cs → (∀ c ∈ cs, c.1 < E.n) ∧ xs.map a.eval = capVals E cs
  | [], cs, h => by cases h; simp [capVals]
  | x :: l, cs, h => by
    simp only [capsOf] at h
    have hx := RepS.ev hF 0 x
    split at h
    · rename_i k off e
      rw [e] at hx
      split at h
      · rename_i cs' h'
        cases h
        obtain ⟨h1, h2⟩ := capsOf_spec hF h'
        refine ⟨fun c hc => ?_, ?_⟩
        · rcases List.mem_cons.1 hc with rfl | hc
          · exact hx.1
          · exact h1 c hc
        · rw [List.map_cons, h2, hx.2]; rfl
      · cases h
    · cases h

theorem funcSV_spec {P : Program} {E : Env} {st : St} {a : Act} {o : Oper} {fn : Fn} {first caps : Array Operand} {sv : SV} (hF : RepF E st.fr a.tmps.toList) (ho : o.op = .makeFunc fn first caps) (h : funcSV st fn first.toList caps.toList = some sv) :
    ∃ v, (∀ W, (execOp a.eval o).run P W = .ok (.value v) W) ∧ RepS E sv v := by
  unfold funcSV at h
  split at h
  · rename_i f
    split at h
    · rename_i hfirst
      have e1 : first.map a.eval = #[] := Array.toList_inj.1 (by rw [Array.toList_map, hfirst]; rfl)
      have run : ∀ cs, caps.toList.map a.eval = cs → ∀ W, (execOp a.eval o).run P W = .ok (.value (.func (.func f) #[] cs.toArray)) W := fun cs hc W => by
        have e2 : caps.map a.eval = cs.toArray := Array.toList_inj.1 (by rw [Array.toList_map]; exact hc)
        unfold execOp
        simp only [ho]
        simp [Instr.makeFunc, e1, e2]
      split at h
      · rename_i hc
        cases h
        exact ⟨_, run _ (capsOf_spec hF hc).2, rfl, rfl⟩
      · rename_i c cs hc
        cases h
        obtain ⟨h1, h2⟩ := capsOf_spec hF hc
        exact ⟨_, run _ h2, h1, rfl⟩
      · cases h
    · cases h
  · cases h

/-! ### Slices laid out at once: a box, and all of it as a slice -/
def buildRowS (st : St) (e : TypeId) (row : List Seg) : List (Nat × Operand) → Option (List Seg)
  | [] => some row
  | (i, x) :: l => match stRow (tt e) row (i * (tt e).size) (st.ev e x) with
    | some row' => buildRowS st e row' l
    | none => none

def repSeg (row : List Seg) : Nat → List Seg
  | 0 => []
  | n + 1 => row ++ repSeg row n

def zx : Bool → List Seg → List Seg
  | true, row => zxRow row
  | false, row => row

theorem zx_spec {E : Env} {b : Bool} {row : List Seg} {ws : List Value} (h : RepG E row ws) : RepG E (zx b row) ws := by
  cases b with
  | true => exact zxRow_spec h
  | false => exact h

def bsliceP (ar : Ar) (st : St) (t : TypeId) (n : Nat) (parts : List (Nat × Operand)) (k : SV → St → Prop) : Prop :=
  match (tt t).d with
  | .slice e => if (tt e).d.ok = true ∧ 0 < (tt e).size ∧ n * (tt e).size ≤ 16777216 then
      match buildRowS st e (repSeg (zrow (tt e).zero) n) parts with
      | some row => match useRow ar st.ob (zx (zT e) row) with
        | some (ps, ob') => match chunksFrom ps 0 (tt e).size n with
          | some xs => k (.s (.own ob'.length)) ⟨st.fr, ob' ++ [.arr xs e (tt e).size (tt e).bytes true]⟩
          | none => False
        | none => k (.s (.bsl st.ob.length 0 n (tt e).size)) ⟨st.fr, st.ob ++ [.box row]⟩
      | none => False
    else False
  | _ => False

theorem RepG.rep {E : Env} {row : List Seg} {ws : List Value} (h : RepG E row ws) : ∀ n : Nat, RepG E (repSeg row n) (List.replicate n ws).flatten
  | 0 => rfl
  | n + 1 => by
    rw [List.replicate_succ, List.flatten_cons]
    exact h.append (h.rep n)

theorem fillS_spec {P : Program} (hT : TTok P) {E : Env} {st : St} {a : Act} (hF : RepF E st.fr a.tmps.toList) {e : TypeId} :
    ∀ (parts : List (Nat × Operand)) {row row' : List Seg} {ws : List Value}, RepG E row ws → buildRowS st e row parts = some row' → ∃ us : List Value, Instr.fill (fun i => some (i * (tt e).size, (tt e).size)) ws.toArray (parts.map fun (i, x) => (i, a.eval x)) = some us.toArray ∧ RepG E row' us ∧ us.length = ws.length
  | [], row, row', ws, hr, h => by cases h; exact ⟨ws, rfl, hr, rfl⟩
  | (i, x) :: l, row, row', ws, hr, h => by
    simp only [buildRowS] at h
    split at h
    · rename_i row1 hst
      obtain ⟨cs, ec, hok, hs, hf, h1, hrow⟩ := stRow_spec hr (RepS.ev hF e x) hst
      obtain ⟨us, hu, hg, hul⟩ := fillS_spec hT hF l hrow h
      refine ⟨us, ?_, hg, by rw [hul]; simp only [List.length_append, List.length_take, List.length_drop]; omega⟩
      rw [List.map_cons]
      simp only [Instr.fill, ec, List.size_toArray, hs]
      have hc : ¬ ((tt e).size ≠ (tt e).size || decide (i * (tt e).size + (tt e).size > ws.toArray.size)) = true := by
        simp only [ne_eq, not_true_eq_false, decide_false, Bool.false_or, decide_eq_true_eq, List.size_toArray]
        omega
      rw [if_neg (by simpa using hc)]
      rw [← hu]
      congr 1
      refine Array.ext_getElem? fun q => ?_
      rw [← Array.foldl_toList]
      have hz : (cs.toArray.zipIdx).toList = cs.zipIdx 0 := by simp
      rw [hz, (Great.foldl_set (i * (tt e).size) cs 0 ws.toArray).2 q]
      simp only [Nat.add_zero, List.size_toArray, List.getElem?_toArray, List.getElem?_append, List.length_append, List.length_take, List.getElem?_take, List.getElem?_drop]
      grind
    · cases h

theorem RepL.ptake {m : Mem} : ∀ {row row' : List PS} {us : List Value} {n : Nat}, RepL m row us → Eng.ptake row n = some row' → RepL m row' (us.take n) ∧ rlen row' = n
  | _, _, us, 0, _, h => by simp only [Eng.ptake, Option.some.injEq] at h; subst h; simp [RepL, rlen]
  | [], _, _, n + 1, _, h => by cases h
  | .c x :: rest, _, _, n + 1, ⟨w, ws', e, hv, hr⟩, h => by
    subst e
    simp only [Eng.ptake, Option.map_eq_some_iff] at h
    obtain ⟨l, hl, rfl⟩ := h
    have := RepL.ptake hr hl
    exact ⟨⟨w, _, rfl, hv, this.1⟩, by simp [rlen, this.2, PS.len]; omega⟩
  | .r k vs :: rest, _, _, n + 1, ⟨hl, ho, ws', e, hr⟩, h => by
    subst e
    simp only [Eng.ptake] at h
    split at h
    · rename_i hle
      simp only [Option.map_eq_some_iff] at h
      obtain ⟨l, hl', rfl⟩ := h
      have := RepL.ptake hr hl'
      refine ⟨⟨hl, ho, _, ?_, this.1⟩, by simp [rlen, this.2, PS.len]; omega⟩
      rw [List.take_append, List.take_of_length_le (by omega), hl]
    · rename_i hgt
      cases h
      refine ⟨⟨by simp; omega, fun u hu => ho u (List.mem_of_mem_take hu), [], ?_, rfl⟩, by simp [rlen, PS.len]⟩
      rw [List.take_append_of_le_length (by omega), List.append_nil]

theorem RepL.pdrop {m : Mem} : ∀ {row row' : List PS} {us : List Value} {n : Nat}, RepL m row us → Eng.pdrop row n = some row' → RepL m row' (us.drop n)
  | _, _, us, 0, r, h => by simp only [Eng.pdrop, Option.some.injEq] at h; subst h; simpa using r
  | [], _, _, n + 1, _, h => by cases h
  | .c x :: rest, _, _, n + 1, ⟨w, ws', e, hv, hr⟩, h => by
    subst e
    simp only [Eng.pdrop] at h
    simpa using RepL.pdrop hr h
  | .r k vs :: rest, _, _, n + 1, ⟨hl, ho, ws', e, hr⟩, h => by
    subst e
    simp only [Eng.pdrop] at h
    split at h
    · rename_i hle
      have := RepL.pdrop hr h
      rw [List.drop_append, List.drop_of_length_le (by omega), List.nil_append, hl]
      exact this
    · rename_i hgt
      cases h
      refine ⟨by simp; omega, fun u hu => ho u (List.mem_of_mem_drop hu), ws', ?_, hr⟩
      rw [List.drop_append_of_le_length (by omega)]

theorem RepL.chunks {m : Mem} {row : List PS} {us : List Value} (r : RepL m row us) {sz : Nat} : ∀ {n off : Nat} {xs : List (List PS)}, chunksFrom row off sz n = some xs → RepX m xs sz ((us.drop off).take (n * sz)) ∧ xs.length = n
  | 0, off, xs, h => by simp only [chunksFrom, Option.some.injEq] at h; subst h; simp [RepX]
  | n + 1, off, xs, h => by
    simp only [chunksFrom, Option.bind_eq_some_iff, Option.map_eq_some_iff] at h
    obtain ⟨x, hx, l, hl, rfl⟩ := h
    simp only [psub, Option.bind_eq_some_iff] at hx
    obtain ⟨q, h1, h2⟩ := hx
    have t1 := (r.pdrop h1).ptake h2
    have t2 := RepL.chunks r hl
    refine ⟨⟨_, _, ?_, t1.2, t1.1, t2.1⟩, by simp [t2.2]⟩
    rw [show (n + 1) * sz = sz + n * sz by rw [Nat.add_mul]; omega, List.take_add, List.drop_drop]

theorem bsliceP_spec {c0 : Bool} {P : Program} (hT : TTok P) {B : Nat} {W0 : World} {m0 : Mem} {E : Env} {st : St} {a : Act} {W : World} {o : Oper} {t : TypeId} {n : Nat} {parts : Array (Nat × Operand)} {k : SV → St → Prop} {next : Act → World → Prop} {Q : Exit → Act → World → Prop}
    (h : Sim B W0 m0 E st a W) (ho : o.op = .buildSlice t n parts) (hk : bsliceP arS st t n parts.toList k) (hn : Nexts c0 B W0 m0 a W o next k) : o.wp P a W next Q := by
  unfold bsliceP at hk
  split at hk
  · rename_i e hd
    obtain ⟨d, hd1, hd2⟩ := (hT.of_ok (t := t) (by rw [hd]; rfl)).desc
    rw [hd] at hd2
    cases d <;> try exact False.elim hd2
    cases hd2
    split at hk
    · rename_i hc
      obtain ⟨hok, hpos, hsm⟩ := hc
      obtain ⟨ti, z, hti, hs1, hs2, hz, hzv, hzs⟩ := (hT.of_ok hok).info
      split at hk
      · rename_i row hb
        obtain ⟨us, hu, hg, hul⟩ := fillS_spec hT h.fr parts.toList ((RepG.zrow (E := E) hzv).rep n) hb
        have hn' : st.ob.length = E.n := h.inv.n.symm
        have hcells : (Array.range (n * ti.size)).map (z.cells[· % z.cells.size]!) = (List.replicate n z.cells.toList).flatten.toArray := by
          refine Array.toList_inj.1 ?_
          have := madeCells_flat z.cells n
          rw [hs1, ← hzs]
          exact this
        have run : (Instr.buildSlice t n (parts.map fun (i, x) => (i, a.eval x))).run P W = .ok (.slice (some ⟨W.heap.size, 0, none⟩) n n) (W.alloc (.cells us.toArray e)) := by
          have hf : Instr.fill (fun i => some (i * ti.size, ti.size)) ((Array.range (n * ti.size)).map (z.cells[· % z.cells.size]!)) (parts.map fun (i, x) => (i, a.eval x)).toList = some us.toArray := by
            rw [hcells, Array.toList_map, hs1]; exact hu
          by_cases h0 : n * ti.size = 0
          · have h0' : n = 0 := by
              rcases Nat.mul_eq_zero.1 h0 with h | h
              · exact h
              · omega
            subst h0'
            have e0 : ∀ f : Nat → Value, (Array.range (0 * ti.size)).map f = #[] := fun f => Array.eq_empty_of_size_eq_zero (by simp)
            rw [e0] at hf
            simp at hf
            have e1 : ∀ f : Nat → Value, (Array.range 0).map f = #[] := fun f => Array.eq_empty_of_size_eq_zero (by simp)
            simp [Instr.buildSlice, run_underlying hd1, sizeOf, typeInfo, hti, newRow, e1, hf]
          · exact run_buildSlice W t e n _ us.toArray ti z hd1 hti hz (by rw [hs1]; omega) h0 hf
        have exe : (execOp a.eval o).run P W = .ok (.value (.slice (some ⟨W.heap.size, 0, none⟩) n n)) (W.alloc (.cells us.toArray e)) := by
          unfold execOp
          simp only [ho]
          simp [run]
        have hus : us.length = n * (tt e).size := by rw [hul]; simp [hzs]
        split at hk
        · rename_i ps ob' huse
          obtain ⟨E1, e1, i1, r1⟩ := useRow_spec h.inv (zx_spec hg) huse
          split at hk
          · rename_i xs hxs
            obtain ⟨hX, hxl⟩ := r1.chunks hxs
            rw [List.drop_zero, ← hus, List.take_length] at hX
            have hs1 := h.ext e1 i1
            have hE := E1.le_push W.heap.size (.slice (some ⟨W.heap.size, 0, none⟩) n n)
            have hov : (E1.push W.heap.size (.slice (some ⟨W.heap.size, 0, none⟩) n n)).ov E1.n = .slice (some ⟨W.heap.size, 0, none⟩) n n := by simp [Env.push]
            have hρ : (E1.push W.heap.size (.slice (some ⟨W.heap.size, 0, none⟩) n n)).ρ E1.n = W.heap.size := by simp [Env.push]
            have hga := World.grownBy_alloc W (.cells us.toArray e) none
            have hi := i1.add (b := W.heap.size) (v := .slice (some ⟨W.heap.size, 0, none⟩) n n) (o := .arr xs e (tt e).size (tt e).bytes true) hga ?_ ?_
            · rw [← show E1.n = ob'.length from i1.n] at hk
              exact wp_value exe (hn _ _ _ _ _ hk ⟨hi, hs1.fr.mono hE, h.below.grown hga h.inv.size (fun g e => by cases e), hs1.grew, hs1.had, hs1.defers⟩ ⟨Nat.lt_succ_self _, hov.symm, rfl⟩ fun _ => Keeps.grown hga)
            · refine ⟨hpos, us, ?_, hX.mono hE.μ, fun g hgb => ?_⟩
              · rw [hov]
                refine ⟨by rw [hxl, hus], .inr ⟨W.heap.size, n, us.toArray, by rw [hxl], h.inv.size, heap_alloc_new W _, by rw [hxl]; exact Nat.le_refl _, ?_, by simp [hus], ?_⟩⟩
                · have : n ≤ n * (tt e).size := Nat.le_mul_of_pos_right _ hpos
                  simp only [maxLen]; omega
                · rw [hxl, ← hus]; simp
              · rw [hov] at hgb
                cases hgb
                exact ⟨hρ.symm, fun o _ => mu_lt i1 (Nat.le_refl _) o, fun e => by cases e⟩
            · intro g hgb
              simp only [Wb, hov] at hgb
              cases hgb
              exact Nat.le_refl _
          · exact hk.elim
        · obtain ⟨h1, h2⟩ := h.newBox hg e
          refine wp_value exe (hn _ _ _ _ _ hk h1 ?_ fun _ => Keeps.grown (World.grownBy_alloc W _ none))
          refine ⟨by rw [hn']; exact Nat.lt_succ_self _, 0, n, ?_, Nat.le_refl _, fun _ => rfl⟩
          have hρ : (E.push W.heap.size undef).ρ st.ob.length = W.heap.size := by rw [hn']; simp [Env.push]
          rw [hρ]
      · exact hk.elim
    · exact hk.elim
  · exact hk.elim

/-! ### The greater, the smaller of two -/
def mmP (mx : Bool) (x y : SV) (K : SV → Prop) : Prop :=
  match x with
  | .s cx => match y with
    | .s cy => match intOf cx with
      | some (k, a, _) => match intOf cy with
        | some (k', b, _) => if k = k' then ∃ z : Int, (True → z = match mx with | true => max a b | false => min a b) ∧ K (.s (.p (.v (.int k z)))) else False
        | none => False
      | none => False
    | _ => False
  | _ => False

theorem mmP_spec {P : Program} {E : Env} {st : St} {a : Act} {o : Oper} {mx : Bool} {t t' : TypeId} {x y : Operand} {K : SV → Prop} (hF : RepF E st.fr a.tmps.toList)
    (ho : o.op = .call { callee := .builtin (match mx with | true => .max | false => .min), args := #[x, y], argTypes := #[t, t'] })
    (h : mmP mx (st.ev 0 x) (st.ev 0 y) K) : ∃ sv v, K sv ∧ (∀ W, (execOp a.eval o).run P W = .ok (.value v) W) ∧ RepS E sv v := by
  have hx := RepS.ev hF 0 x
  have hy := RepS.ev hF 0 y
  generalize st.ev 0 x = sx at *
  generalize st.ev 0 y = sy at *
  unfold mmP at h
  split at h
  · rename_i cx
    split at h
    · rename_i cy
      split at h
      · rename_i k n l h1
        split at h
        · rename_i k' n' l' h2
          split at h
          · rename_i hkk
            subst hkk
            have e1 := intOf_spec hx h1
            have e2 := intOf_spec hy h2
            obtain ⟨z, hz, hK⟩ := h
            have hz := hz trivial
            refine ⟨_, .int k z, hK, fun W => ?_, rfl, rfl⟩
            cases mx with
            | true =>
              unfold execOp
              simp only [ho]
              simp [resolve, invoke, builtin, e1, e2, Builtin.max_, Builtin.max2, hz]
              try (split <;> simp_all <;> omega)
            | false =>
              unfold execOp
              simp only [ho]
              simp [resolve, invoke, builtin, e1, e2, Builtin.min_, Builtin.min2, hz]
              try (split <;> simp_all <;> omega)
          · exact h.elim
        · exact h.elim
      · exact h.elim
    · exact h.elim
  · exact h.elim

/-! ### A byte of a text -/
def strAtP (x i : SV) (K : SV → Prop) : Prop :=
  match x with
  | .s (.p (.v (.string s))) => match i with
    | .s ci => match intOf ci with
      | some (_, n, _) => ∃ z : Int, (True → 0 ≤ n ∧ ∃ b : UInt8, s[n.toNat]? = some b ∧ z = b.toNat) ∧ K (.s (.p (.v (.int .u8 z))))
      | none => False
    | _ => False
  | _ => False

theorem strAtP_spec {P : Program} (hT : TTok P) {E : Env} {st : St} {a : Act} {o : Oper} {t : TypeId} {x i : Operand} {K : SV → Prop} (hd : (tt t).d = .str) (hF : RepF E st.fr a.tmps.toList) (ho : o.op = .index t x i)
    (h : strAtP (st.ev t x) (st.ev 0 i) K) : ∃ sv v, K sv ∧ (∀ W, (execOp a.eval o).run P W = .ok (.value v) W) ∧ RepS E sv v := by
  have hx := RepS.ev hF t x
  have hi := RepS.ev hF 0 i
  generalize st.ev t x = sx at *
  generalize st.ev 0 i = si at *
  obtain ⟨d, hd1, hd2⟩ := (hT.of_ok (t := t) (by rw [hd]; rfl)).desc
  rw [hd] at hd2
  cases d <;> try exact False.elim hd2
  unfold strAtP at h
  split at h
  · rename_i s
    split at h
    · rename_i ci
      split at h
      · rename_i k n l hci
        have ex : a.eval x = .string s := hx.1
        have ei := intOf_spec hi hci
        obtain ⟨z, hs, hK⟩ := h
        obtain ⟨h0, b, hb, hz⟩ := hs trivial
        refine ⟨_, .int .u8 z, hK, fun W => ?_, rfl, rfl⟩
        unfold execOp
        simp only [ho, ex, ei]
        simp [Instr.index, asIntOf, run_underlying hd1, h0, hb, hz]
      · exact h.elim
    · exact h.elim
  · exact h.elim

end Go.Eng
