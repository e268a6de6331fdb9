/-
  The operations: those that only reckon; boxes; stores.
-/
import Derived.Test.YtgihmigiecfmaaaEngD
namespace Go.Eng
open Go Go.RowKit

/-- The state of the evaluation fits the state of the run: B, W0, m0: the heap's size, the world, the memory that never turns, as the call began. -/
structure Sim (B : Nat) (W0 : World) (m0 : Mem) (E : Env) (st : St) (a : Act) (W : World) : Prop where
  inv : Inv B E st.ob W
  fr : RepF E st.fr a.tmps.toList
  below : Below B W0 W
  grew : ∀ b o w, E.μ b o = some w → m0 b o = some w ∨ B ≤ b
  had : Mem.le m0 E.μ
  defers : a.defers = []

theorem Sim.ext {B : Nat} {W0 : World} {m0 : Mem} {E E' : Env} {st : St} {ob' : List Ob} {a : Act} {W : World} (h : Sim B W0 m0 E st a W) (e : Ext B E E') (i : Inv B E' ob' W) : Sim B W0 m0 E' ⟨st.fr, ob'⟩ a W :=
  ⟨i, h.fr.mono e.le, h.below, fun b o w hm => (e.grew b o w hm).elim (h.grew b o w) .inr, Mem.le_trans h.had e.le.μ, h.defers⟩

theorem wp_value {P : Program} {o : Oper} {a : Act} {w w' : World} {v : Value} {next : Act → World → Prop} {Q : Exit → Act → World → Prop} (hr : (execOp a.eval o).run P w = .ok (.value v) w') (h : next (a.put o.dst v) w') : o.wp P a w next Q := by
  unfold Oper.wp; rw [hr]; exact h

theorem wp_skipped {P : Program} {o : Oper} {a : Act} {w w' : World} {next : Act → World → Prop} {Q : Exit → Act → World → Prop} (hr : (execOp a.eval o).run P w = .ok .skip w') (h : next (a.put o.dst undef) w') : o.wp P a w next Q := by
  unfold Oper.wp; rw [hr]; exact h

/-- What follows an operation; c: it leaves all cells as they are. -/
def Nexts (c : Bool) (B : Nat) (W0 : World) (m0 : Mem) (a : Act) (W : World) (o : Oper) (next : Act → World → Prop) (k : SV → St → Prop) : Prop :=
  ∀ sv st' E' W' v, k sv st' → Sim B W0 m0 E' st' a W' → RepS E' sv v → (c = true → Keeps W W') → next (a.put o.dst v) W'

/-! ### Operations that only reckon -/
def boolOf : CV → Option Bool
  | .bl b => some b
  | .p (.v (.bool b)) => some b
  | _ => none

theorem boolOf_spec {E : Env} {c : CV} {w : Value} {b : Bool} (h : RepK E c w) (hb : boolOf c = some b) : w = .bool b := by
  unfold boolOf at hb
  split at hb
  · cases hb; exact h
  · cases hb; exact h.1
  · cases hb

def pick2 (ar : Ar) (t : Bool) : SV → SV → Option SV
  | .s x, .s y => match boolOf x with
    | some p => match boolOf y with | some q => some (.s (.p (.v (.bool (ar.mux t p q))))) | none => none
    | none => none
  | _, _ => none

def pickSV (ar : Ar) (c a b : SV) : Option SV :=
  match c with
  | .s (.bl t) => match t with | true => some a | false => some b
  | .s (.p (.v (.bool t))) => pick2 ar t a b
  | _ => none

def addOff : SV → Nat → Option SV
  | .s (.ptr j o), n => some (.s (.ptr j (o + n)))
  | .s (.ept j b sz i o), n => some (.s (.ept j b sz i (o + n)))
  | .s (.ipt row o), n => some (.s (.ipt row (o + n)))
  | _, _ => none

def TD.ok : TD → Bool
  | .bad => false
  | _ => true

def unSV (ar : Ar) (op : UnOp) : SV → Option SV
  | .s (.bl b) => match op with | .not => some (.s (.bl (!b))) | _ => none
  | .s (.p (.v (.bool b))) => match op with | .not => some (.s (.p (.v (.bool (ar.nb b))))) | _ => none
  | .s (.lit k n) => match op with | .neg => some (.s (.lit k (intU .neg k n))) | .xor => some (.s (.p (.v (.int k (ar.ub .xor k n))))) | _ => none
  | .s (.p (.v (.int k n))) => match op with | .neg => some (.s (.p (.v (.int k (ar.ub .neg k n))))) | .xor => some (.s (.p (.v (.int k (ar.ub .xor k n))))) | _ => none
  | _ => none

def convSV (ar : Ar) (s d : TD) : SV → Option SV
  | .s (.lit _ n) => match s.ok, d with | true, .int k => some (.s (.lit k (k.wrap n))) | _, _ => none
  | .s (.p (.v (.int _ n))) => match s.ok, d with | true, .int k => some (.s (.p (.v (.int k (ar.cv k n))))) | _, _ => none
  | _ => none

def valOp (ar : Ar) (st : St) (ty : TypeId) : Op → Option SV
  | .move x => some (st.ev ty x)
  | .assign x => some (st.ev ty x)
  | .pick c a b => pickSV ar (st.ev 0 c) (st.ev ty a) (st.ev ty b)
  | .fieldAddr s x f => match (tt s).d with
    | .struct fs => match fs[f]? with
      | some (off, ft) => if (tt ft).d.ok = true ∧ (tt ft).size ≠ 0 then addOff (st.ev 0 x) off else none
      | none => none
    | _ => none
  | .unOp op xT x => unSV ar op (st.ev xT x)
  | .convert src dst x => convSV ar (tt src).d (tt dst).d (st.ev src x)
  | .extract x i => match st.ev 0 x with
    | .t rs => match rs[i]? with | some r => some r.sv | none => none
    | _ => none
  | .nilCheck x => match st.ev 0 x with
    | .s (.ptr j o) => some (.s (.ptr j o))
    | .s (.ept j b sz i o) => some (.s (.ept j b sz i o))
    | .s (.ipt row o) => some (.s (.ipt row o))
    | _ => none
  | _ => none

theorem TTok.of_ok {P : Program} (hT : TTok P) {t : TypeId} (h : (tt t).d.ok = true) : TIok P t (tt t) := by
  rcases hT t with h' | h'
  · rw [h'] at h; cases h
  · exact h'

theorem run_fieldAt {P : Program} (hT : TTok P) {W : World} {s ft : TypeId} {fs : List (Nat × TypeId)} {f off : Nat} {A : Addr} (hs : (tt s).d = .struct fs) (hf : fs[f]? = some (off, ft))
    (hok : (tt ft).d.ok = true) (hsz : (tt ft).size ≠ 0) : (Instr.fieldAt s (.pointer (some A)) f).run P W = .ok (.pointer (some (A.add off))) W := by
  obtain ⟨d, hd, hfit⟩ := (hT.of_ok (t := s) (by rw [hs]; rfl)).desc
  obtain ⟨ti, z, hi, hsize, _⟩ := (hT.of_ok hok).info
  rw [hs] at hfit
  cases d <;> try exact False.elim hfit
  rename_i F
  have hF : fs = F.toList.map fun f => (f.offset, f.type) := hfit
  subst hF
  rw [List.getElem?_map, Option.map_eq_some_iff] at hf
  obtain ⟨fd, hfd, he⟩ := hf
  simp only [Prod.mk.injEq] at he
  obtain ⟨rfl, rfl⟩ := he
  have hfa : F[f]? = some fd := by rw [← Array.getElem?_toList]; exact hfd
  simp [Instr.fieldAt, run_underlying hd, hfa, Instr.sureAddr, fieldPlace, sizeOf, typeInfo, hi, hsize, hsz]

theorem addOff_spec {E : Env} {p q : SV} {w : Value} {n : Nat} (h : RepS E p w) (hq : addOff p n = some q) : ∃ A, w = .pointer (some A) ∧ RepS E q (.pointer (some (A.add n))) := by
  unfold addOff at hq
  split at hq
  · cases hq
    exact ⟨_, h.2, h.1, by rw [Addr.add_mid]⟩
  · cases hq
    exact ⟨_, h.2, h.1, by rw [Addr.add_mid, Nat.add_assoc]⟩
  · cases hq
    obtain ⟨b, o, e, hc⟩ := h
    exact ⟨_, e, b, o, by rw [Addr.add_mid, Nat.add_assoc], hc⟩
  · cases hq

theorem valOp_spec {P : Program} (hT : TTok P) {E : Env} {st : St} {a : Act} {o : Oper} {sv : SV} (hF : RepF E st.fr a.tmps.toList)
    (hv : valOp arS st o.type o.op = some sv) : ∃ v, (∀ W, (execOp a.eval o).run P W = .ok (.value v) W) ∧ RepS E sv v := by
  have ev : ∀ t x, RepS E (st.ev t x) (a.eval x) := fun t x => RepS.ev hF t x
  cases ho : o.op <;> rw [ho] at hv <;> simp only [valOp] at hv <;> try cases hv
  case move x => exact ⟨a.eval x, fun W => by unfold execOp; simp only [ho, Sem.run_pure], ev _ x⟩
  case assign x => exact ⟨a.eval x, fun W => by unfold execOp; simp only [ho, Sem.run_pure], ev _ x⟩
  case pick c x y =>
    have hc := ev 0 c
    have hx := ev o.type x
    have hy := ev o.type y
    have run : ∀ t : Bool, a.eval c = .bool t → ∀ W, (execOp a.eval o).run P W = .ok (.value (if t = true then a.eval x else a.eval y)) W := fun t e W => by
      unfold execOp; simp only [ho, e]; simp [asBool]
    generalize hgc : st.ev 0 c = sc at *
    generalize hgx : st.ev o.type x = sx at *
    generalize hgy : st.ev o.type y = sy at *
    unfold pickSV at hv
    split at hv
    · rename_i t
      have e : a.eval c = .bool t := hc
      split at hv
      · cases hv; exact ⟨_, run _ e, by simpa using hx⟩
      · cases hv; exact ⟨_, run _ e, by simpa using hy⟩
    · rename_i t
      have e : a.eval c = .bool t := hc.1
      unfold pick2 at hv
      split at hv
      · rename_i cx cy
        split at hv
        · rename_i p hp
          split at hv
          · rename_i q hq
            cases hv
            have e1 := boolOf_spec hx hp
            have e2 := boolOf_spec hy hq
            refine ⟨_, run _ e, ?_, rfl⟩
            rw [e1, e2]
            cases t <;> rfl
          · cases hv
        · cases hv
      · cases hv
    · cases hv
  case fieldAddr s x f =>
    split at hv
    · rename_i fs hs
      split at hv
      · rename_i off ft hf
        split at hv
        · rename_i hcond
          obtain ⟨A, e, hq⟩ := addOff_spec (ev 0 x) hv
          refine ⟨_, fun W => ?_, hq⟩
          unfold execOp
          simp only [ho, e]
          simp [run_fieldAt hT hs hf hcond.1 hcond.2]
        · cases hv
      · cases hv
    · cases hv
  case unOp op xT x =>
    have hx := ev xT x
    have run : ∀ v, (∀ W, (Op.unary op (a.eval x)).run P W = .ok v W) → ∀ W, (execOp a.eval o).run P W = .ok (.value v) W := fun v e W => by
      unfold execOp; simp only [ho]; simp [e W]
    generalize st.ev xT x = sx at *
    unfold unSV at hv
    split at hv
    · rename_i b
      have e : a.eval x = .bool b := hx
      split at hv
      · cases hv; exact ⟨_, run _ (fun W => by rw [e]; simp [Op.unary]), rfl⟩
      · cases hv
    · rename_i b
      have e : a.eval x = .bool b := hx.1
      split at hv
      · cases hv; exact ⟨_, run _ (fun W => by rw [e]; simp [Op.unary, arS]), rfl, rfl⟩
      · cases hv
    · rename_i k n
      have e : a.eval x = .int k n := hx
      split at hv
      · cases hv; exact ⟨_, run _ (fun W => by rw [e]; simp [Op.unary, Op.intArith, intU]), rfl⟩
      · cases hv; exact ⟨_, run _ (fun W => by rw [e]; simp [Op.unary, Op.intBits]; rfl), rfl, rfl⟩
      · cases hv
    · rename_i k n
      have e : a.eval x = .int k n := hx.1
      split at hv
      · cases hv; exact ⟨_, run _ (fun W => by rw [e]; simp [Op.unary, Op.intArith, intU, arS]), rfl, rfl⟩
      · cases hv; exact ⟨_, run _ (fun W => by rw [e]; simp [Op.unary, Op.intBits]; rfl), rfl, rfl⟩
      · cases hv
    · cases hv
  case convert src dst x =>
    have hx := ev src x
    have run : ∀ k k' n, a.eval x = .int k' n → (tt src).d.ok = true → (tt dst).d = .int k → ∀ W, (execOp a.eval o).run P W = .ok (.value (.int k (k.wrap n))) W := fun k k' n e h1 h2 W => by
      obtain ⟨d1, e1, _⟩ := (hT.of_ok h1).desc
      obtain ⟨d2, e2, f2⟩ := (hT.of_ok (t := dst) (by rw [h2]; rfl)).desc
      rw [h2] at f2
      cases d2 <;> try exact False.elim f2
      cases f2
      unfold execOp; simp only [ho, e]
      simp [convert, run_underlying e1, run_underlying e2, Conv.intToInt]
    generalize st.ev src x = sx at *
    unfold convSV at hv
    split at hv
    · rename_i k' n
      split at hv
      · rename_i k h1 h2
        cases hv
        exact ⟨_, run k k' n hx h1 h2, rfl⟩
      · cases hv
    · rename_i k' n
      split at hv
      · rename_i k h1 h2
        cases hv
        exact ⟨_, run k k' n hx.1 h1 h2, rfl, rfl⟩
      · cases hv
    · cases hv
  case extract x i =>
    have hx := ev 0 x
    generalize st.ev 0 x = sx at *
    split at hv
    · rename_i rs
      split at hv
      · rename_i r hr
        cases hv
        obtain ⟨ws, e, hrs⟩ := hx
        obtain ⟨w, hw, hrw⟩ := hrs.getT i r hr
        refine ⟨w, fun W => ?_, hrw⟩
        unfold execOp; simp only [ho, e]
        simp [Instr.extract, hw]
      · cases hv
    · cases hv
  case nilCheck x =>
    have hx := ev 0 x
    have run : ∀ A, a.eval x = .pointer (some A) → ∀ W, (execOp a.eval o).run P W = .ok (.value (.pointer (some A))) W := fun A e W => by
      unfold execOp; simp only [ho, e]; simp
    generalize st.ev 0 x = sx at *
    split at hv
    · cases hv; exact ⟨_, run _ hx.2, hx.1, rfl⟩
    · cases hv; exact ⟨_, run _ hx.2, hx.1, rfl⟩
    · cases hv
      obtain ⟨b, o', e, hc⟩ := hx
      exact ⟨_, run _ e, b, o', rfl, hc⟩
    · cases hv

end Go.Eng
