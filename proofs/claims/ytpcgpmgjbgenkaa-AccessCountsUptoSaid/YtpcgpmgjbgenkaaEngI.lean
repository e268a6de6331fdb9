/-
  Calls, code, functions: what a body asks, and that the run answers so.
-/
import Derived.Test.YtpcgpmgjbgenkaaEngK4
namespace Go.Eng
open Go Go.RowKit

/-- What a call hands back: one value, or a tuple. -/
def RepRes (m : Mem) : List PR → Value → Prop
  | [r], w => RepR m r w
  | rs, w => ∃ ws : List Value, w = .tuple ws.toArray ∧ RepRs m rs ws

theorem RepRes.srv {E : Env} : ∀ {rs : List PR} {w : Value}, RepRes E.μ rs w → RepS E (srv rs) w
  | [.s _], _, h => h
  | [.a _], _, ⟨ws, e, r⟩ => ⟨ws, e, RepG.of_pure r⟩
  | [], _, h => h
  | _ :: _ :: _, _, h => by simp only [Eng.srv]; exact h

theorem RepRes.of_list {m : Mem} {rs : List PR} {ws : List Value} (h : RepRs m rs ws) : RepRes m rs (if h : ws.toArray.size = 1 then ws.toArray[0] else .tuple ws.toArray) := by
  match rs, ws, h with
  | [], _, h => rw [show _ = [] from h]; exact ⟨[], rfl, rfl⟩
  | [r], _, ⟨w, ws', e, hr, h'⟩ =>
    rw [show ws' = [] from h'] at e
    subst e
    exact hr
  | r :: r' :: rs, _, ⟨w, ws', e, hr, w', ws'', e', hr', h'⟩ =>
    subst e'; subst e
    simp only [List.size_toArray, List.length_cons]
    rw [dif_neg (by omega)]
    exact ⟨_, rfl, w, _, rfl, hr, w', _, rfl, hr', h'⟩

/-- The contract Ct of function f is true of the program: of whatever world and memory its arguments stand in, it returns what Ct lets it. -/
def Sound (P : Program) (f : FuncId) (Ct : List PR → (List PR → Prop) → Prop) : Prop :=
  ∀ (args : List PR) (k : List PR → Prop) (m : Mem) (W : World) (vs : List Value), (∀ b o w, m b o = some w → W.cell? ⟨b, o, none⟩ = some w) → RepRs m args vs → Ct args k →
    Calls P f vs.toArray W fun e W' => ∃ v rs m', e = .returned v ∧ k rs ∧ RepRes m' rs v ∧ Mem.le m m' ∧ (∀ b o w, m' b o = some w → W'.cell? ⟨b, o, none⟩ = some w) ∧
      (∀ b o w, m' b o = some w → m b o = some w ∨ W.heap.size ≤ b) ∧ Below W.heap.size W W'

/-- The strongest contract that is true. -/
def best (P : Program) (f : FuncId) (args : List PR) (k : List PR → Prop) : Prop := ∃ Ct, Sound P f Ct ∧ Ct args k

theorem best_sound (P : Program) (f : FuncId) : Sound P f (best P f) := fun args k m W vs hm hr ⟨_, hT, h⟩ => hT args k m W vs hm hr h

abbrev Contracts := FuncId → List PR → (List PR → Prop) → Prop

def evs (st : St) : List Operand → List SV
  | [] => []
  | x :: l => st.ev 0 x :: evs st l

theorem RepF.evs {E : Env} {st : St} {a : Act} (h : RepF E st.fr a.tmps.toList) : ∀ xs : List Operand, RepF E (evs st xs) (xs.map a.eval)
  | [] => rfl
  | x :: l => ⟨a.eval x, l.map a.eval, rfl, RepS.ev h 0 x, RepF.evs h l⟩

def callFn (ar : Ar) (Γ : Contracts) (st : St) (f : FuncId) (xs : List Operand) (k : SV → St → Prop) : Prop :=
  match useAll ar st.ob (evs st xs) with
  | some (prs, ob') => Γ f prs fun rs => k (srv rs) ⟨st.fr, ob'⟩
  | none => False

theorem callFn_spec {c0 : Bool} {P : Program} {B : Nat} {W0 : World} {m0 : Mem} {E : Env} {st : St} {a : Act} {W : World} {o : Oper} {f : FuncId} {xs : Array Operand} {ts : Array TypeId} {k : SV → St → Prop} {next : Act → World → Prop} {Q : Exit → Act → World → Prop}
    (hcall : ∀ args w, (callFunc f args).run P w = .ok (.enter f args) w)
    (h : Sim B W0 m0 E st a W) (ho : o.op = .call { callee := .value (.func f), args := xs, argTypes := ts }) (hk : callFn arS (best P) st f xs.toList k) (hn : Nexts c0 B W0 m0 a W o next k) : o.wp P a W next Q := by
  unfold callFn at hk
  split at hk
  · rename_i prs ob' hu
    obtain ⟨E1, e1, i1, r1⟩ := useAll_spec h.inv (RepF.evs h.fr xs.toList) hu
    have hrun : (execOp a.eval o).run P W = .ok (.enter f (xs.map a.eval)) W := by
      unfold execOp
      simp only [ho]
      simp [resolve, Act.eval, Deferred.ofValue, invoke, hcall]
    unfold Oper.wp
    rw [hrun]
    have hc := best_sound P f prs _ E1.μ W _ i1.mu r1 hk
    have earr : (xs.toList.map a.eval).toArray = xs.map a.eval := by
      refine Array.toList_inj.1 ?_
      rw [Array.toList_map]
    rw [earr] at hc
    show Calls P f (xs.map a.eval) W _
    refine hc.mono ?_
    rintro e W' ⟨v, rs, m', rfl, hkr, hres, hle, hmu, hnew, hbel⟩
    have hg : W.grownBy W' none := ⟨hbel.os, hbel.tape, hbel.output, hbel.size, fun b hb _ => hbel.block b hb⟩
    have i2 := i1.world hg hle hnew hmu
    have hE : E1.le { E1 with μ := m' } := ⟨Nat.le_refl _, fun _ _ => rfl, fun _ _ => rfl, hle⟩
    refine hn _ _ _ _ _ hkr ⟨i2, (h.fr.mono e1.le).mono hE, ?_, fun b o w hm => ?_, Mem.le_trans h.had (Mem.le_trans e1.le.μ hle), h.defers⟩ (RepRes.srv (E := { E1 with μ := m' }) hres) (fun _ => Keeps.grown hg)
    · exact h.below.trans (hbel.mono h.inv.size)
    · rcases hnew b o w hm with h1 | h1
      · rcases e1.grew b o w h1 with h2 | h2
        · exact h.grew b o w h2
        · exact .inr h2
      · exact .inr (Nat.le_trans h.inv.size h1)
  · exact hk.elim

/-- The functions that the model enters. -/
structure Enters (P : Program) : Prop where
  fn : ∀ f, entered f = true → ∀ args w, (callFunc f args).run P w = .ok (.enter f args) w
  mixed : P.follows .mixedOrders = true

/-- An operation whose value hangs on no more of the world than on cells that stand. -/
def valP (ar : Ar) (o : Oper) (st : St) (k : SV → St → Prop) : Prop :=
  match o.op with
  | .load t p => loadAny st t (st.ev 0 p) fun sv => k sv st
  | .indexAddr t x i => indexP ar st t (st.ev 0 x) (st.ev 0 i) fun sv => k sv st
  | .binOp op xT x y _ => match (tt xT).d with
    | .int _ => binIP ar op (st.ev xT x) (st.ev xT y) fun sv => k sv st
    | .bool => binBP ar op (st.ev xT x) (st.ev xT y) fun sv => k sv st
    | .arr n e => eqAggP ar op n e (st.ev xT x) (st.ev xT y) fun sv => k sv st
    | _ => False
  | .build t parts => match buildSV st t parts.toList with
    | some sv => k sv st
    | none => False
  | .slice t x lo hi mx => match mx with
    | none => sliceP ar st t (st.ev 0 x) lo hi k
    | some _ => False
  | .call c => match c.callee with
    | .builtin .len => match c.args.toList, c.argTypes.toList with
      | [x], [t] => match lenSV ar st t (st.ev t x) with | some sv => k sv st | none => False
      | _, _ => False
    | _ => False
  | op => match valOp ar st o.type op with | some sv => k sv st | none => False

def opP (ar : Ar) (Γ : Contracts) (o : Oper) (st : St) (k : SV → St → Prop) : Prop :=
  match o.op with
  | .alloc t => allocP st t k
  | .box t x => boxP st (st.ev t x) k
  | .store t p x => storeP ar st t (st.ev 0 p) (st.ev t x) k
  | .makeSlice t l c => makeP ar st t (st.ev 0 l) (st.ev 0 c) k
  | .call c => match c.callee with
    | .builtin .append => match c.args.toList, c.argTypes.toList with
      | [s, x], [t, t'] => if t = t' then appendP ar st t (st.ev 0 s) (st.ev 0 x) k else False
      | _, _ => False
    | .builtin .copy => match c.args.toList, c.argTypes.toList with
      | [d, x], [t, _] => copyP ar st t (st.ev 0 d) (st.ev 0 x) k
      | _, _ => False
    | .value (.func f) => if entered f = true then callFn ar Γ st f c.args.toList k else False
    | _ => valP ar o st k
  | _ => valP ar o st k

theorem call_eq {c : Call} {cl : Callee} {xs : List Operand} {us : List TypeId} (h1 : c.callee = cl) (h2 : c.args.toList = xs) (h3 : c.argTypes.toList = us) : c = { callee := cl, args := xs.toArray, argTypes := us.toArray } := by
  cases c
  simp only at h1 h2 h3
  subst h1 h2 h3
  simp

theorem valP_spec {P : Program} (hT : TTok P) {B : Nat} {W0 : World} {m0 : Mem} {E : Env} {st : St} {a : Act} {W : World} {o : Oper} {k : SV → St → Prop}
    (h : Sim B W0 m0 E st a W) (hk : valP arS o st k) : ∃ sv st' E' v, k sv st' ∧ Sim B W0 m0 E' st' a W ∧ (∀ W', Keeps W W' → (execOp a.eval o).run P W' = .ok (.value v) W') ∧ RepS E' sv v := by
  have all : (∃ sv v, k sv st ∧ (∀ W, (execOp a.eval o).run P W = .ok (.value v) W) ∧ RepS E sv v) → ∃ sv st' E' v, k sv st' ∧ Sim B W0 m0 E' st' a W ∧ (∀ W', Keeps W W' → (execOp a.eval o).run P W' = .ok (.value v) W') ∧ RepS E' sv v :=
    fun ⟨sv, v, h1, h2, h3⟩ => ⟨sv, st, E, v, h1, h, fun W' _ => h2 W', h3⟩
  unfold valP at hk
  split at hk
  case h_1 t p ho =>
    obtain ⟨sv, v, h1, h2, h3⟩ := loadAny_spec hT h.inv h.fr ho hk
    exact ⟨sv, st, E, v, h1, h, h2, h3⟩
  case h_2 t x i ho => exact all (indexP_spec (k := fun sv => k sv st) hT h.inv h.fr ho hk)
  case h_3 op xT x y yT ho =>
    split at hk
    · exact all (binIP_spec (K := fun sv => k sv st) h.fr ho hk)
    · rename_i hd
      exact all (binBP_spec (K := fun sv => k sv st) hT hd h.fr ho hk)
    · rename_i n e hd
      exact all (eqAggP_spec (K := fun sv => k sv st) hT hd h.fr ho hk)
    · exact hk.elim
  case h_4 t parts ho =>
    split at hk
    · rename_i sv hv
      obtain ⟨v, hr, hs⟩ := buildSV_spec hT h.fr ho hv
      exact all ⟨sv, v, hk, hr, hs⟩
    · exact hk.elim
  case h_5 t x lo hi mx ho =>
    split at hk
    · obtain ⟨sv, st', E', v, h1, h2, h3, h4⟩ := sliceP_spec hT h ho hk
      exact ⟨sv, st', E', v, h1, h2, fun W' _ => h3 W', h4⟩
    · exact hk.elim
  case h_6 c ho =>
    split at hk
    · rename_i hc
      split at hk
      · rename_i x t h1 h2
        split at hk
        · rename_i sv hv
          obtain ⟨v, hr, hs⟩ := lenSV_spec hT h.inv h.fr (ho.trans (congrArg Op.call (call_eq hc h1 h2))) hv
          exact all ⟨sv, v, hk, hr, hs⟩
        · exact hk.elim
      · exact hk.elim
    · exact hk.elim
  case h_7 =>
    split at hk
    · rename_i sv hv
      obtain ⟨v, hr, hs⟩ := valOp_spec hT h.fr hv
      exact all ⟨sv, v, hk, hr, hs⟩
    · exact hk.elim

theorem opP_spec {P : Program} (hT : TTok P) (hfs : Enters P) {B : Nat} {W0 : World} {m0 : Mem} {E : Env} {st : St} {a : Act} {W : World} {o : Oper} {k : SV → St → Prop} {next : Act → World → Prop} {Q : Exit → Act → World → Prop}
    (h : Sim B W0 m0 E st a W) (hk : opP arS (best P) o st k) (hn : Nexts (calmOp o.op) B W0 m0 a W o next k) : o.wp P a W next Q := by
  have val : valP arS o st k → o.wp P a W next Q := fun hk => by
    obtain ⟨sv, st', E', v, hk, h', hr, hs⟩ := valP_spec hT h hk
    exact wp_value (hr W (Keeps.refl W)) (hn _ _ _ _ _ hk h' hs fun _ => Keeps.refl W)
  unfold opP at hk
  split at hk
  case h_1 t ho => exact allocP_spec hT h ho hk hn
  case h_2 t x ho => exact boxP_spec h ho hk hn
  case h_3 t p x ho => exact storeP_spec hT h ho hk (by rw [ho] at hn; exact hn)
  case h_4 t l c ho => exact makeP_spec hT h ho hk hn
  case h_5 c ho =>
    split at hk
    · rename_i hc
      split at hk
      · rename_i s x t t' h1 h2
        split at hk
        · rename_i ht
          subst ht
          exact appendP_spec hT h (ho.trans (congrArg Op.call (call_eq hc h1 h2))) hk (by rw [ho] at hn; simp only [calmOp, hc] at hn; exact hn)
        · exact hk.elim
      · exact hk.elim
    · rename_i hc
      split at hk
      · rename_i d x t t' h1 h2
        exact copyP_spec hT h (ho.trans (congrArg Op.call (call_eq hc h1 h2))) hk (by rw [ho] at hn; simp only [calmOp, hc] at hn; exact hn)
      · exact hk.elim
    · rename_i f hc
      split at hk
      · rename_i hf
        refine callFn_spec (hfs.fn f hf) h (ts := c.argTypes) (ho.trans (congrArg Op.call ?_)) hk hn
        cases c
        simp only at hc
        subst hc
        rfl
      · exact hk.elim
    · exact val hk
  case h_6 => exact val hk

/-! ### Regions -/
def putF (fr : List SV) (dst : Option Tmp) (sv : SV) : List SV :=
  match dst with
  | some d => fr.set d sv
  | none => fr

theorem Sim.put {B : Nat} {W0 : World} {m0 : Mem} {E : Env} {st : St} {a : Act} {W : World} {sv : SV} {v : Value} (h : Sim B W0 m0 E st a W) (hs : RepS E sv v) (dst : Option Tmp) : Sim B W0 m0 E ⟨putF st.fr dst sv, st.ob⟩ (a.put dst v) W := by
  cases dst with
  | none => exact h
  | some d =>
    refine ⟨h.inv, ?_, h.below, h.grew, h.had, h.defers⟩
    have := h.fr.set d sv v hs
    simpa [Act.put, putF] using this

def guardSlot (ops : List Oper) (j : Nat) : Option Tmp :=
  match ops[j]? with
  | some o => o.dst
  | none => none

def guarded (ops : List Oper) (o : Oper) (st : St) (run skip : St → Prop) : Prop :=
  match o.guard with
  | none => run st
  | some (j, want) => match guardSlot ops j with
    | some d => match st.fr[d]? with
      | some (.s (.bl b)) => match (b == want) with
        | true => run st
        | false => skip st
      | some (.s (.p (.v (.bool b)))) => (b = want → run ⟨st.fr.set d (.s (.bl want)), st.ob⟩) ∧ (b = !want → skip ⟨st.fr.set d (.s (.bl (!want))), st.ob⟩)
      | _ => False
    | none => False

def vcOps (ar : Ar) (Γ : Contracts) (ops : List Oper) : List Oper → St → (St → Prop) → Prop
  | [], st, k => k st
  | o :: rest, st, k => guarded ops o st (fun st => opP ar Γ o st fun sv st' => vcOps ar Γ ops rest ⟨putF st'.fr o.dst sv, st'.ob⟩ k) (fun st => vcOps ar Γ ops rest ⟨putF st.fr o.dst .un, st.ob⟩ k)

theorem Sim.set {B : Nat} {W0 : World} {m0 : Mem} {E : Env} {st : St} {a : Act} {W : World} {d : Nat} {b : Bool} (h : Sim B W0 m0 E st a W) (hd : st.fr[d]? = some (.s (.p (.v (.bool b))))) : Sim B W0 m0 E ⟨st.fr.set d (.s (.bl b)), st.ob⟩ a W := by
  refine ⟨h.inv, ?_, h.below, h.grew, h.had, h.defers⟩
  obtain ⟨w, hw, hs⟩ := h.fr.get d _ hd
  have e : w = .bool b := hs.1
  subst e
  have := h.fr.set d (.s (.bl b)) (.bool b) rfl
  have e2 : a.tmps.toList.set d (.bool b) = a.tmps.toList := by
    refine List.ext_getElem? fun i => ?_
    rw [List.getElem?_set]
    split
    · rename_i hdi; subst hdi; split
      · exact hw.symm
      · rename_i hlt; rw [List.getElem?_eq_none (by omega)]
    · rfl
  rw [e2] at this
  exact this

theorem guarded_spec {B : Nat} {W0 : World} {m0 : Mem} {ops : Array Oper} {E : Env} {st : St} {a : Act} {W : World} {o : Oper} {run skip : St → Prop} (h : Sim B W0 m0 E st a W) (hk : guarded ops.toList o st run skip) :
    (Region.wanted o (yielded ops a.tmps) = true ∧ ∃ st', Sim B W0 m0 E st' a W ∧ run st') ∨ (Region.wanted o (yielded ops a.tmps) = false ∧ ∃ st', Sim B W0 m0 E st' a W ∧ skip st') := by
  unfold guarded at hk
  split at hk
  · rename_i hg
    exact .inl ⟨by simp [Region.wanted, hg], st, h, hk⟩
  · rename_i j want hg
    split at hk
    · rename_i d hd
      have hy : ∀ b, st.fr[d]? = some (.s (.bl b)) ∨ st.fr[d]? = some (.s (.p (.v (.bool b)))) → Region.wanted o (yielded ops a.tmps) = (b == want) := fun b hb => by
        have hw : a.tmps[d]? = some (.bool b) := by
          rcases hb with hb | hb
          · obtain ⟨w, hw, hs⟩ := h.fr.get d _ hb
            rw [show w = _ from hs] at hw
            simpa using hw
          · obtain ⟨w, hw, hs⟩ := h.fr.get d _ hb
            rw [show w = _ from hs.1] at hw
            simpa using hw
        have hd' : (ops[j]?).bind (·.dst) = some d := by
          unfold guardSlot at hd
          rw [Array.getElem?_toList] at hd
          cases hj : ops[j]? with
          | none => rw [hj] at hd; cases hd
          | some oj => rw [hj] at hd; simpa using hd
        simp only [Region.wanted, hg, yielded, hd', Option.bind_some, hw]
        simp
      split at hk
      · rename_i b hb
        rw [hy b (.inl hb)]
        split at hk
        · rename_i e; exact .inl ⟨e, st, h, hk⟩
        · rename_i e; exact .inr ⟨e, st, h, hk⟩
      · rename_i b hb
        rw [hy b (.inr hb)]
        by_cases e : b = want
        · subst e
          exact .inl ⟨by simp, _, h.set hb, hk.1 rfl⟩
        · have e' : b = !want := by cases b <;> cases want <;> simp_all
          have := hk.2 e'
          subst e'
          exact .inr ⟨by simp, _, h.set hb, this⟩
      · exact hk.elim
    · exact hk.elim

theorem vcOps_spec {P : Program} (hT : TTok P) (hfs : Enters P) {B : Nat} {W0 : World} {m0 : Mem} {ops : Array Oper} {Q : Exit → Act → World → Prop} {k : St → Prop} (hQ : ∀ E st a W, k st → Sim B W0 m0 E st a W → Q .normal a W) :
    ∀ (l : List Oper) {E : Env} {st : St} {a : Act} {W : World}, Sim B W0 m0 E st a W → vcOps arS (best P) ops.toList l st k → wpList P ops Q l a W
  | [], E, st, a, W, h, hk => hQ E st a W hk h
  | o :: rest, E, st, a, W, h, hk => by
    unfold vcOps at hk
    unfold wpList
    rcases guarded_spec h hk with ⟨hw, st', h', hk⟩ | ⟨hw, st', h', hk⟩
    · rw [if_pos hw]
      exact .inl (opP_spec hT hfs h' hk fun sv st' E' W' v hk' hs hr _ => vcOps_spec hT hfs hQ rest (hs.put hr o.dst) hk')
    · rw [if_neg (by simp [hw])]
      exact vcOps_spec hT hfs hQ rest (h'.put (sv := .un) (v := undef) trivial o.dst) hk

end Go.Eng
