/-
  Calls, code, functions: what a body asks, and that the run answers so.
-/
import Derived.Test.YtgihmigiecfmaaaEngI0
import Derived.Laws.Externs
import GoSem.Extern.MathBitsCarry
namespace Go.Eng
open Go Go.RowKit

def toTR : PR → TR
  | .s x => .s (.p x)
  | .a row => .a (segs row)
  | .ao _ => .a []

def trs : List PR → List TR
  | [] => []
  | r :: l => toTR r :: trs l

theorem RepT.of_pure {E : Env} : ∀ {rs : List PR} {ws : List Value}, RepRs E.μ rs ws → RepT E (trs rs) ws
  | [], _, h => h
  | .s x :: l, _, ⟨w, ws', e, hr, hl⟩ => ⟨w, ws', e, hr, RepT.of_pure hl⟩
  | .a row :: l, _, ⟨w, ws', e, ⟨us, e2, hr⟩, hl⟩ => by subst e2; exact ⟨us, ws', e, RepG.of_pure hr, RepT.of_pure hl⟩
  | .ao _ :: _, _, ⟨_, _, _, hr, _⟩ => hr.elim

theorem RepRs.length' {m : Mem} : ∀ {rs : List PR} {ws : List Value}, RepRs m rs ws → ws.length = rs.length
  | [], _, h => by rw [show _ = [] from h]; rfl
  | _ :: _, _, ⟨_, _, e, _, h⟩ => by rw [e]; simp [RepRs.length' h]

/-- The contract Ct of function f is true of the program: of whatever world and memory its arguments stand in, it returns what Ct lets it. -/
def Sound (P : Program) (f : FuncId) (Ct : List PR → (List PR → Prop) → Prop) : Prop :=
  ∀ (args : List PR) (k : List PR → Prop) (m : Mem) (W : World) (vs : List Value), GlobOk m → (∀ b o w, m b o = some w → W.cell? ⟨b, o, none⟩ = some w) → RepRs m args vs → Ct args k →
    Calls P f vs.toArray W fun e W' => ∃ v rs m' F, e = .returned v ∧ k rs ∧ OwnRes W.heap.size m' W' rs v F ∧ F.Nodup ∧ Mem.le m m' ∧ (∀ b o w, m' b o = some w → W'.cell? ⟨b, o, none⟩ = some w) ∧
      (∀ b o w, m' b o = some w → m b o = some w ∨ W.heap.size ≤ b) ∧ Below W.heap.size W W'

/-- The strongest contract that is true. -/
def best (P : Program) (f : FuncId) (args : List PR) (k : List PR → Prop) : Prop := ∃ Ct, Sound P f Ct ∧ Ct args k

theorem best_sound (P : Program) (f : FuncId) : Sound P f (best P f) := fun args k m W vs hg hm hr ⟨_, hT, h⟩ => hT args k m W vs hg hm hr h

/-- The contract of a function that eats what own slices it is given: nothing else turns, it answers plain values. -/
def SoundE (P : Program) (f : FuncId) (Ct : List PR → (List PR → Prop) → Prop) : Prop :=
  ∀ (args : List PR) (k : List PR → Prop) (m : Mem) (W : World) (vs : List Value) (F : List Nat), GlobOk m → (∀ b o w, m b o = some w → W.cell? ⟨b, o, none⟩ = some w) → OwnRs 0 m W args vs F → F.Nodup → Ct args k →
    Calls P f vs.toArray W fun e W' => ∃ v rs, e = .returned v ∧ k rs ∧ (∀ m' W'', OwnRes 0 m' W'' rs v []) ∧ W'.os = W.os ∧ W'.tape = W.tape ∧ W'.output = W.output ∧ W.heap.size ≤ W'.heap.size ∧ ∀ g, g < W.heap.size → g ∉ F → W'.heap[g]? = W.heap[g]?

def bestE (P : Program) (f : FuncId) (args : List PR) (k : List PR → Prop) : Prop := ∃ Ct, SoundE P f Ct ∧ Ct args k

theorem bestE_sound (P : Program) (f : FuncId) : SoundE P f (bestE P f) := fun args k m W vs F hg hm hr hF ⟨_, hT, h⟩ => hT args k m W vs F hg hm hr hF h

/-- What an evaluation may ask: the contracts, the bodies, how a body is walked in place. -/
structure Ctx where
  g : FuncId → List PR → (List PR → Prop) → Prop
  e : FuncId → List PR → (List PR → Prop) → Prop
  bd : FuncId → Func → Code → Prop
  inl : Code → St → Kt → Prop

/-- What is asked is true of the program. -/
structure Ctx.Ok (P : Program) (Γ : Ctx) : Prop where
  g : ∀ f, Sound P f (Γ.g f)
  e : ∀ f, SoundE P f (Γ.e f)
  bd : ∀ f fn c, Γ.bd f fn c → P.funcs[f]? = some fn ∧ fn.body = some c
  inl : ∀ {B : Nat} {W0 : World} {m0 : Mem} (c : Code) {Q : Exit → Act → World → Prop} {κ : Kt} {E : Env} {st : St} {a : Act} {W : World},
    (∀ E st a W, κ.n st → Sim B W0 m0 E st a W → Q .normal a W) → (∀ id E st a W, κ.x id st → Sim B W0 m0 E st a W → Q (.exit id) a W) → (∀ E st a W, κ.r st → Sim B W0 m0 E st a W → Q .ret a W) →
    (∀ l E st a W, κ.g l st → Sim B W0 m0 E st a W → Q (.goto l) a W) →
    Sim B W0 m0 E st a W → Γ.inl c st κ → c.wp P Q a W

def evs (st : St) : List Operand → List SV
  | [] => []
  | x :: l => st.ev 0 x :: evs st l

theorem RepF.evs {E : Env} {st : St} {a : Act} (h : RepF E st.fr a.tmps.toList) : ∀ xs : List Operand, RepF E (evs st xs) (xs.map a.eval)
  | [] => rfl
  | x :: l => ⟨a.eval x, l.map a.eval, rfl, RepS.ev h 0 x, RepF.evs h l⟩

/-- Does a row hold a slice that is known to be nil? -/
def rowNil : List Seg → Bool
  | [] => false
  | .c .nil :: _ => true
  | _ :: l => rowNil l
def anyNil : List SV → Bool
  | [] => false
  | .a row :: l => match rowNil row with | true => true | false => anyNil l
  | _ :: l => anyNil l
def useAllN (ar : Ar) (ob : List Ob) (svs : List SV) : Option (List PR × List Ob) :=
  match anyNil svs with
  | true => none
  | false => useAll ar ob svs

theorem useAllN_some {ar : Ar} {ob : List Ob} {svs : List SV} {x : List PR × List Ob} (h : useAllN ar ob svs = some x) : useAll ar ob svs = some x := by
  unfold useAllN at h
  split at h
  · cases h
  · exact h

/-- Results as a tuple's parts. -/
def tsv : List SV → Option (List TR)
  | [] => some []
  | .s c :: l => match tsv l with | some r => some (.s c :: r) | none => none
  | .a row :: l => match tsv l with | some r => some (.a row :: r) | none => none
  | _ :: _ => none

theorem tsv_spec {E : Env} : ∀ {svs : List SV} {ws : List Value} {ts : List TR}, RepF E svs ws → tsv svs = some ts → RepT E ts ws
  | [], _, _, hr, h => by cases h; exact hr
  | .s c :: l, _, _, ⟨w, ws', e, hv, hr⟩, h => by
    simp only [tsv] at h
    split at h
    · rename_i r hr'; cases h; exact ⟨w, ws', e, hv, tsv_spec hr hr'⟩
    · cases h
  | .a row :: l, _, _, ⟨w, ws', e, ⟨us, e2, hv⟩, hr⟩, h => by
    simp only [tsv] at h
    split at h
    · rename_i r hr'; cases h; subst e2; exact ⟨us, ws', e, hv, tsv_spec hr hr'⟩
    · cases h
  | .un :: _, _, _, _, h => by cases h
  | .ud :: _, _, _, _, h => by cases h
  | .t _ :: _, _, _, _, h => by cases h

/-- A body walked in place has returned: the caller's frame comes back. -/
def popIn (ar : Ar) (n : Nat) (vs : List Value) (rs : List ResultVar) (k : SV → St → Prop) (st : St) : Prop :=
  match resAll st rs with
  | some svs => match st.ob[n]? with
    | some (.hid fr vs') => vs' = vs ∧ (match svs with
      | [sv] => k sv ⟨fr, st.ob.set n .gone⟩
      | svs => match useAllN ar (st.ob.set n .gone) svs with
        | some (prs, ob') => k (.t (trs prs)) ⟨fr, ob'⟩
        | none => match svs with
          | _ :: _ :: _ => match tsv svs with
            | some ts => k (.t ts) ⟨fr, st.ob.set n .gone⟩
            | none => False
          | _ => False)
    | _ => False
  | none => False

/-- The callee's body is walked in place. -/
def callIn (ar : Ar) (Γ : Ctx) (st : St) (f : FuncId) (svs : List SV) (k : SV → St → Prop) : Prop :=
  ∃ fn c, Γ.bd f fn c ∧ ∀ vs, Γ.inl c ⟨svs ++ List.replicate (fn.ntmps - svs.length) .un, st.ob ++ [.hid st.fr vs]⟩
    ⟨popIn ar st.ob.length vs fn.results.toList k, fun _ _ => False, popIn ar st.ob.length vs fn.results.toList k, fun _ _ => False⟩

/-- What is handed to it is not frozen, as its answer needs none of it. -/
def callB (ar : Ar) (Γ : Ctx) (st : St) (f : FuncId) (svs : List SV) (k : SV → St → Prop) : Prop :=
  match lendAll ar st.ob svs with
  | some prs => Γ.g f prs fun rs => shutRs rs ∧ match adRes st.ob.length rs with | (sv, os) => k sv ⟨st.fr, st.ob ++ os⟩
  | none => False

/-- What is handed to it is frozen for good (what cannot be frozen is lent). -/
def callG (ar : Ar) (Γ : Ctx) (st : St) (f : FuncId) (svs : List SV) (k : SV → St → Prop) : Prop :=
  match useAll ar st.ob svs with
  | some (prs, ob') => Γ.g f prs fun rs => match adRes ob'.length rs with | (sv, os) => k sv ⟨st.fr, ob' ++ os⟩
  | none => callB ar Γ st f svs k

/-- What own slices are handed to it are eaten. -/
def callE (ar : Ar) (Γ : Ctx) (st : St) (f : FuncId) (svs : List SV) (k : SV → St → Prop) : Prop :=
  match keepAll ar st.ob (zxAll svs) with
  | some (svs', ob1) => match handAll ob1 svs' with
    | some (prs, ks) => nodupB ks = true ∧ ∃ prs', loosRs prs prs' ∧ Γ.e f prs' fun rs => match adRes (goneAll ob1 ks).length rs with
      | (sv, []) => k sv ⟨st.fr, goneAll ob1 ks⟩
      | _ => False
    | none => False
  | none => False

/-- A call: by a contract, or (il) by the body walked in place. -/
def callFn (il : Bool) (ar : Ar) (Γ : Ctx) (st : St) (f : FuncId) (svs : List SV) (k : SV → St → Prop) : Prop :=
  match il with
  | true => callG ar Γ st f svs k ∨ (callB ar Γ st f svs k ∨ (callIn ar Γ st f svs k ∨ callE ar Γ st f svs k))
  | false => callG ar Γ st f svs k

theorem callB_spec {c0 : Bool} {P : Program} {Γ : Ctx} (hG : Γ.Ok P) {B : Nat} {W0 : World} {m0 : Mem} {E : Env} {st : St} {a : Act} {W : World} {o : Oper} {f : FuncId} {svs : List SV} {ws : List Value} {k : SV → St → Prop} {next : Act → World → Prop}
    (h : Sim B W0 m0 E st a W) (hF : RepF E svs ws) (hk : callB arS Γ st f svs k) (hn : Nexts c0 B W0 m0 a W o next k) : Calls P f ws.toArray W fun e W' => ∃ v, e = .returned v ∧ next (a.put o.dst v) W' := by
  unfold callB at hk
  split at hk
  · rename_i prs hu
    have r1 := lendAll_spec h.inv hF hu
    refine (hG.g f prs _ (memOf W) W _ (E.gok.mono h.inv.mu) (fun b o w hm => hm) r1 hk).mono ?_
    rintro e W' ⟨v, rs, m', F, rfl, ⟨hsh, hkr⟩, hres, hnd, hle, hmu, hnew, hbel⟩
    have hg : W.grownBy W' none := ⟨hbel.os, hbel.tape, hbel.output, hbel.size, fun b hb _ => hbel.block b hb⟩
    have i2 : Inv B (E.mem E.μ (Mem.le_refl _)) st.ob W' := h.inv.world hg (Mem.le_refl _) (fun b o w hm => .inl hm) (fun b o w hm => hg.cell (h.inv.mu b o w hm) (by simp))
    have hfree : Free (E.mem E.μ (Mem.le_refl _)) st.ob F := fun g hg j oj hoj hw => by
      have h1 := (hres.new g hg).1
      have h2 := ((h.inv.obs j oj hoj).wlt hw).2
      omega
    have hres2 : OwnRes W.heap.size E.μ W' rs v F := hres.shut (fun g hg o => by
      have h1 := (hres.new g hg).1
      cases hm : E.μ g o with
      | none => rfl
      | some w => have := World.cell_lt (h.inv.mu g o w hm); omega) hsh
    obtain ⟨E3, a3, r3⟩ := adRes_spec (B := B) h.inv.size i2 hfree hnd hres2
    refine ⟨v, rfl, hn _ _ E3 _ _ hkr ⟨a3.inv, h.fr.mono a3.le, ?_, fun b o w hm => ?_, ?_, h.defers⟩ r3 (fun _ => Keeps.grown hg)⟩
    · exact h.below.trans (hbel.mono h.inv.size)
    · rw [a3.μ] at hm; exact h.grew b o w hm
    · rw [a3.μ]; exact h.had
  · exact hk.elim

theorem callG_spec {c0 : Bool} {P : Program} {Γ : Ctx} (hG : Γ.Ok P) {B : Nat} {W0 : World} {m0 : Mem} {E : Env} {st : St} {a : Act} {W : World} {o : Oper} {f : FuncId} {svs : List SV} {ws : List Value} {k : SV → St → Prop} {next : Act → World → Prop}
    (h : Sim B W0 m0 E st a W) (hF : RepF E svs ws) (hk : callG arS Γ st f svs k) (hn : Nexts c0 B W0 m0 a W o next k) : Calls P f ws.toArray W fun e W' => ∃ v, e = .returned v ∧ next (a.put o.dst v) W' := by
  unfold callG at hk
  split at hk
  · rename_i prs ob' hu
    obtain ⟨E1, e1, i1, r1⟩ := useAll_spec h.inv hF hu
    refine (hG.g f prs _ E1.μ W _ E1.gok i1.mu r1 hk).mono ?_
    rintro e W' ⟨v, rs, m', F, rfl, hkr, hres, hnd, hle, hmu, hnew, hbel⟩
    have hg : W.grownBy W' none := ⟨hbel.os, hbel.tape, hbel.output, hbel.size, fun b hb _ => hbel.block b hb⟩
    have i2 := i1.world hg hle hnew hmu
    have hE : E1.le (E1.mem m' hle) := ⟨Nat.le_refl _, fun _ _ => rfl, fun _ _ => rfl, hle⟩
    have hfree : Free (E1.mem m' hle) ob' F := fun g hg j oj hoj hw => by
      have h1 := (hres.new g hg).1
      have h2 := ((i1.obs j oj hoj).wlt hw).2
      omega
    obtain ⟨E3, a3, r3⟩ := adRes_spec (B := B) i1.size i2 hfree hnd hres
    refine ⟨v, rfl, hn _ _ E3 _ _ hkr ⟨a3.inv, ((h.fr.mono e1.le).mono hE).mono a3.le, ?_, fun b o w hm => ?_, ?_, h.defers⟩ r3 (fun _ => Keeps.grown hg)⟩
    · exact h.below.trans (hbel.mono h.inv.size)
    · rw [a3.μ] at hm
      rcases hnew b o w hm with h1 | h1
      · rcases e1.grew b o w h1 with h2 | h2
        · exact h.grew b o w h2
        · exact .inr h2
      · exact .inr (Nat.le_trans h.inv.size h1)
    · rw [a3.μ]; exact Mem.le_trans h.had (Mem.le_trans e1.le.μ hle)
  · exact callB_spec hG h hF hk hn

theorem RepF.undefs {E : Env} (n : Nat) : ∀ {svs : List SV} {ws : List Value}, RepF E svs ws → RepF E (svs ++ List.replicate n .un) (ws ++ List.replicate n undef)
  | [], ws, h => by
    rw [show ws = [] from h, List.nil_append, List.nil_append]
    induction n with
    | zero => rfl
    | succ n ih => exact ⟨undef, _, rfl, trivial, ih⟩
  | _ :: _, _, ⟨w, ws', e, hv, hr⟩ => by subst e; exact ⟨w, _, rfl, hv, hr.undefs n⟩

theorem callIn_spec {P : Program} (hT : TTok P) {Γ : Ctx} (hG : Γ.Ok P) {B : Nat} {W0 : World} {m0 : Mem} {E : Env} {st : St} {a : Act} {W : World} {o : Oper} {f : FuncId} {svs : List SV} {ws : List Value} {k : SV → St → Prop} {next : Act → World → Prop}
    (h : Sim B W0 m0 E st a W) (hF : RepF E svs ws) (hk : callIn arS Γ st f svs k) (hn : Nexts false B W0 m0 a W o next k) : Calls P f ws.toArray W fun e W' => ∃ v, e = .returned v ∧ next (a.put o.dst v) W' := by
  obtain ⟨fn, c, hbd, hin⟩ := hk
  obtain ⟨hf, hb⟩ := hG.bd f fn c hbd
  have hin := hin a.tmps.toList
  have hn0 : st.ob.length = E.n := h.inv.n.symm
  have hE := E.le_push 0 undef
  have i1 := h.inv.add (W' := W) (b := 0) (v := undef) (o := .hid st.fr a.tmps.toList) ⟨rfl, rfl, rfl, Nat.le_refl _, fun _ _ _ => rfl⟩ (h.fr.mono hE) (fun g hg => by cases hg)
  have hlen := hF.length
  have h1 : Sim B W0 m0 (E.push 0 undef) ⟨svs ++ List.replicate (fn.ntmps - svs.length) .un, st.ob ++ [.hid st.fr a.tmps.toList]⟩ { tmps := ws.toArray ++ Array.replicate (fn.ntmps - ws.toArray.size) undef, defers := [] } W := by
    refine ⟨i1, ?_, h.below, h.grew, h.had, rfl⟩
    have := (hF.mono hE).undefs (fn.ntmps - svs.length)
    simpa [hlen] using this
  refine calls_of_wp hf hb ?_
  have fin : ∀ E2 st2 a2 W2, popIn arS st.ob.length a.tmps.toList fn.results.toList k st2 → Sim B W0 m0 E2 st2 a2 W2 → a2.defers = [] ∧ ∃ v, (results fn a2.tmps).run P W2 = .ok v W2 ∧ ∃ v', Ending.returned v = .returned v' ∧ next (a.put o.dst v') W2 := fun E2 st2 a2 W2 hk hs => by
    unfold popIn at hk
    split at hk
    · rename_i svs2 hsv
      obtain ⟨vs, hvs, hFs⟩ := resAll_spec (P := P) hT hs.inv hs.fr hsv
      split at hk
      · rename_i fr vs' hhid
        obtain ⟨rfl, hk⟩ := hk
        have hfr : RepF E2 fr a.tmps.toList := hs.inv.obs _ _ hhid
        have hlt := (List.getElem?_eq_some_iff.1 hhid).1
        have i3 : Inv B E2 (st2.ob.set st.ob.length .gone) W2 := by
          refine hs.inv.change (k := st.ob.length) (o' := .gone) (row := none) idS ((Env.le_refl E2).but _) (by simp [hs.inv.n]) (fun j oj hj hoj => ⟨oj, ?_, by cases oj <;> rfl⟩) (by simp [hlt]) (idS_ok (Env.le_refl _)) ⟨rfl, rfl, rfl, Nat.le_refl _, fun _ _ _ => rfl⟩
            trivial hs.inv.mu (fun b o w hm => .inl hm) (fun g e => by cases e) (fun g hg => by cases hg)
          rw [List.getElem?_set_ne (Ne.symm hj)] at hoj; exact hoj
        have h3 : Sim B W0 m0 E2 ⟨fr, st2.ob.set st.ob.length .gone⟩ a W2 := ⟨i3, hfr, hs.below, hs.grew, hs.had, h.defers⟩
        refine ⟨hs.defers, _, run_results hvs, _, rfl, ?_⟩
        split at hk
        · rename_i sv
          obtain ⟨v, ws', e, hv, hnil⟩ := hFs
          rw [show ws' = [] from hnil] at e
          subst e
          exact hn _ _ _ _ _ hk h3 hv (fun e => by cases e)
        · rename_i hne
          split at hk
          · rename_i prs ob' hu
            have hu := useAllN_some hu
            obtain ⟨E4, e4, i4, r4⟩ := useAll_spec i3 hFs hu
            have h4 := h3.ext e4 i4
            have hne1 : ∀ r, prs ≠ [r] := fun r e => by
              subst e
              cases svs2 with
              | nil => simp [useAll] at hu
              | cons x l =>
                cases l with
                | nil => exact hne x rfl
                | cons y l =>
                  simp only [useAll] at hu
                  split at hu
                  · split at hu
                    · rename_i h5
                      split at h5
                      · split at h5
                        · cases h5; cases hu
                        · cases h5
                      · cases h5
                    · cases hu
                  · cases hu
            refine hn _ _ _ _ _ hk h4 ?_ (fun e => by cases e)
            have hlen : vs.toArray.size ≠ 1 := fun e => by
              have h5 := RepRs.length' r4
              rw [List.size_toArray] at e
              match prs, h5 with
              | [r], _ => exact hne1 r rfl
              | [], h5 => rw [List.length_nil] at h5; omega
              | _ :: _ :: _, h5 => rw [List.length_cons, List.length_cons] at h5; omega
            rw [dif_neg hlen]
            exact ⟨vs, rfl, RepT.of_pure r4⟩
          · split at hk
            · rename_i x y l _ _
              split at hk
              · rename_i ts hts
                refine hn _ _ _ _ _ hk h3 ?_ (fun e => by cases e)
                have h5 := hFs.length
                rw [dif_neg (by rw [List.size_toArray, h5]; simp)]
                exact ⟨vs, rfl, tsv_spec hFs hts⟩
              · exact hk.elim
            · exact hk.elim
      · exact hk.elim
    · exact hk.elim
  refine hG.inl c (κ := ⟨popIn arS st.ob.length a.tmps.toList fn.results.toList k, fun _ _ => False, popIn arS st.ob.length a.tmps.toList fn.results.toList k, fun _ _ => False⟩) (fun E st a W' hk hs => ?_) (fun id E st a W' hk hs => False.elim hk) (fun E st a W' hk hs => ?_) (fun l E st a W' hk hs => False.elim hk) h1 hin
  · exact fin E st a W' hk hs
  · exact fin E st a W' hk hs

section
variable {B B' : Nat} {m : Mem} {W : World}
theorem nil_split {F1 F2 : List Nat} (h : ([] : List Nat) = F1 ++ F2) : F1 = [] ∧ F2 = [] := by simpa using h.symm
mutual
/-- What owns nothing means the same from wherever it is looked at. -/
theorem OwnV.strong : ∀ {x : PV} {w : Value}, OwnV B m W x w [] → OwnV B' m W x w []
  | .v _, _, h => h
  | .sl _ _, _, h => h
  | .ow xs e sz b, w, ⟨h1, h2, h3, h4, C, h5, h6⟩ => ⟨h1, h2, h3, h4, C, ⟨h5.1, by
      rcases h5.2 with h' | ⟨g, cap, cur, rfl, h'⟩
      · exact .inl h'
      · simp [Value.ownBlock] at h2⟩, h6⟩
  | .on xs s e sz b, w, ⟨h1, ad, cap, C1, C2, G1, G2, h2, h3, h4, h5, h6, h7⟩ => by
    obtain ⟨k1, k2⟩ := nil_split h6
    obtain ⟨k3, k4⟩ := nil_split k2.symm
    subst k3; subst k4
    refine ⟨h1, ad, cap, C1, C2, [], [], h2, ⟨h3.1, ?_⟩, OwnX.strong h4, OwnX.strong h5, h6, h7⟩
    rcases h3.2 with h' | ⟨g, cap', cur, h', h''⟩
    · exact .inl h'
    · simp only [Value.slice.injEq] at h'
      rw [h2, h'.1] at k1
      simp [Value.ownBlock] at k1
theorem OwnL.strong : ∀ {r : List PS} {ws : List Value}, OwnL B m W r ws [] → OwnL B' m W r ws []
  | [], _, h => h
  | .c _ :: _, _, ⟨w, ws', F1, F2, e, eF, hv, hr⟩ => by
    obtain ⟨k1, k2⟩ := nil_split eF
    subst k1; subst k2
    exact ⟨w, ws', [], [], e, rfl, OwnV.strong hv, OwnL.strong hr⟩
  | .r _ _ :: _, _, ⟨hl, ho, ws', e, hr⟩ => ⟨hl, ho, ws', e, OwnL.strong hr⟩
theorem OwnX.strong : ∀ {xs : List (List PS)} {sz : Nat} {C : List Value}, OwnX B m W xs sz C [] → OwnX B' m W xs sz C []
  | [], _, _, h => h
  | _ :: _, _, _, ⟨w, C', F1, F2, e, eF, hl, hv, hr⟩ => by
    obtain ⟨k1, k2⟩ := nil_split eF
    subst k1; subst k2
    exact ⟨w, C', [], [], e, rfl, hl, OwnL.strong hv, OwnX.strong hr⟩
end
theorem OwnR.strong {x : PR} {w : Value} (h : OwnR B m W x w []) : OwnR B' m W x w [] := by
  cases x with
  | s x => exact OwnV.strong h
  | a r => exact h
  | ao r => obtain ⟨ws, e, hL⟩ := h; exact ⟨ws, e, OwnL.strong hL⟩
theorem OwnRs.strong : ∀ {xs : List PR} {ws : List Value}, OwnRs B m W xs ws [] → OwnRs B' m W xs ws []
  | [], _, h => h
  | _ :: _, _, ⟨w, ws', F1, F2, e, eF, hv, hr⟩ => by
    obtain ⟨k1, k2⟩ := nil_split eF
    subst k1; subst k2
    exact ⟨w, ws', [], [], e, rfl, hv.strong, OwnRs.strong hr⟩
theorem OwnRes.strong {rs : List PR} {w : Value} (h : OwnRes B m W rs w []) : OwnRes B' m W rs w [] := by
  match rs, h with
  | [], ⟨ws, e, h'⟩ => exact ⟨ws, e, OwnRs.strong h'⟩
  | [r], h' => exact OwnR.strong h'
  | _ :: _ :: _, ⟨ws, e, h'⟩ => exact ⟨ws, e, OwnRs.strong h'⟩
end

theorem OwnR.weak {B : Nat} {m : Mem} {W : World} : ∀ {x : PR} {w : Value} {F : List Nat}, OwnR B m W x w F → OwnR 0 m W x w F
  | .s _, _, _, h => OwnV.weak (Nat.zero_le _) h
  | .a _, _, _, h => h
  | .ao _, _, _, ⟨ws, e, h⟩ => ⟨ws, e, OwnL.weak (Nat.zero_le _) h⟩

theorem OwnRs.weak {B : Nat} {m : Mem} {W : World} : ∀ {xs : List PR} {ws : List Value} {F : List Nat}, OwnRs B m W xs ws F → OwnRs 0 m W xs ws F
  | [], _, _, h => h
  | _ :: _, _, _, ⟨w, ws', F1, F2, e, eF, hv, hr⟩ => ⟨w, ws', F1, F2, e, eF, OwnR.weak hv, OwnRs.weak hr⟩

theorem callE_spec {P : Program} {Γ : Ctx} (hG : Γ.Ok P) {B : Nat} {W0 : World} {m0 : Mem} {E : Env} {st : St} {a : Act} {W : World} {o : Oper} {f : FuncId} {svs : List SV} {ws : List Value} {k : SV → St → Prop} {next : Act → World → Prop}
    (h : Sim B W0 m0 E st a W) (hF : RepF E svs ws) (hk : callE arS Γ st f svs k) (hn : Nexts false B W0 m0 a W o next k) : Calls P f ws.toArray W fun e W' => ∃ v, e = .returned v ∧ next (a.put o.dst v) W' := by
  unfold callE at hk
  split at hk
  · rename_i svs' ob1 hke
    split at hk
    · rename_i prs ks hh
      obtain ⟨hnd, prs', hlo, hk⟩ := hk
      obtain ⟨E1, e1, i1, r1⟩ := keepAll_spec h.inv (zxAll_spec hF) hke
      obtain ⟨a1, b1⟩ := handAll_spec i1 r1 hh
      have hFn := blks_nodup i1 (nodupB_spec hnd) b1
      have hnew := a1.new
      refine (hG.e f prs' _ E1.μ W _ _ E1.gok i1.mu (a1.loos hlo).weak hFn hk).mono ?_
      rintro e W' ⟨v, rs, rfl, hkr, hres, h1, h2, h3, h4, h5⟩
      have i2 : Inv B E1 (goneAll ob1 ks) W' := i1.goneAll.otherBlocks (goneAll_free i1 b1) (fun g hg => (hnew g hg).2) h1 h2 h3 h4 h5
      obtain ⟨E3, a3, r3⟩ := adRes_spec (B := B) (B' := B) (Nat.le_refl B) i2 (F := []) (fun g hg => by simp at hg) List.nodup_nil (rs := rs) (w := v) (by
        have := hres E1.μ W'
        exact this.strong)
      have hbel : Below B W W' := ⟨h1, h2, h3, h4, fun g hg => h5 g (Nat.lt_of_lt_of_le hg h.inv.size) (fun hm => by have := (hnew g hm).1; omega)⟩
      split at hkr
      · rename_i sv he
        rw [he] at a3 r3
        refine ⟨v, rfl, hn _ _ E3 _ _ hkr ⟨by have := a3.inv; simpa using this, (h.fr.mono e1.le).mono a3.le, h.below.trans hbel, fun b o w hm => ?_, ?_, h.defers⟩ r3 (fun e => by cases e)⟩
        · rw [a3.μ] at hm
          exact (e1.grew b o w hm).elim (h.grew b o w) .inr
        · rw [a3.μ]; exact Mem.le_trans h.had e1.le.μ
      · exact hkr.elim
    · exact hk.elim
  · exact hk.elim

theorem callFn_spec {il : Bool} {c0 : Bool} {P : Program} (hT : TTok P) {Γ : Ctx} (hG : Γ.Ok P) {B : Nat} {W0 : World} {m0 : Mem} {E : Env} {st : St} {a : Act} {W : World} {o : Oper} {f : FuncId} {svs : List SV} {ws : List Value} {k : SV → St → Prop} {next : Act → World → Prop} {Q : Exit → Act → World → Prop}
    (hcall : ∀ args w, (callFunc f args).run P w = .ok (.enter f args) w) (hrun : (execOp a.eval o).run P W = (callFunc f ws.toArray).run P W)
    (h : Sim B W0 m0 E st a W) (hF : RepF E svs ws) (hk : callFn il arS Γ st f svs k) (hn : Nexts (!il && c0) B W0 m0 a W o next k) : o.wp P a W next Q := by
  have main : Calls P f ws.toArray W fun e W' => ∃ v, e = .returned v ∧ next (a.put o.dst v) W' := by
    cases il with
    | true =>
      rcases hk with hk | hk | hk | hk
      · exact callG_spec hG h hF hk hn
      · exact callB_spec hG h hF hk hn
      · exact callIn_spec hT hG h hF hk hn
      · exact callE_spec hG h hF hk hn
    | false => exact callG_spec hG h hF hk hn
  unfold Oper.wp
  rw [hrun, hcall]
  show Calls P f ws.toArray W _
  refine main.mono ?_
  rintro e W' ⟨v, rfl, hv⟩
  exact hv

/-- The model's entries. -/
def extE : Nat → Array Value → Sem Value
  | 1 => fun args => do
    let (x, y, b) ← Extern.MathBitsCarry.three "Sub64" args
    pure (Extern.MathBitsCarry.pair ((x + Extern.MathBitsCarry.m64 - y - b) % Extern.MathBitsCarry.m64) (if x < y + b then 1 else 0))
  | _ => fun args => do
    let (x, y, c) ← Extern.MathBitsCarry.three "Add64" args
    pure (Extern.MathBitsCarry.pair ((x + y + c) % Extern.MathBitsCarry.m64) ((x + y + c) / Extern.MathBitsCarry.m64))

theorem run_extE {P : Program} {n : Nat} {k1 k2 k3 : IntKind} {x y b : Int} (hb : 0 ≤ b ∧ b ≤ 1) (w : World) :
    (extE n #[.int k1 x, .int k2 y, .int k3 b]).run P w = .ok (.tuple #[.int .u64 (extOp (match n with | 1 => 1 | _ => 3) [x, y, b]), .int .u64 (extOp (match n with | 1 => 2 | _ => 4) [x, y, b])]) w := by
  have : b = 0 ∨ b = 1 := by omega
  unfold extE
  split
  · rcases this with rfl | rfl <;> rfl
  · rcases this with rfl | rfl <;> rfl

def extP (ar : Ar) (n : Nat) (xs : List SV) (k : SV → Prop) : Prop :=
  match n, xs with
  | 0, _ => False
  | n + 1, [.s cx, .s cy, .s cb] => match intOf cx with
    | some (_, x, _) => match intOf cy with
      | some (_, y, _) => match intOf cb with
        | some (_, b, _) => (True → 0 ≤ b ∧ b ≤ 1) ∧ k (.t [.s (.p (.v (.int .u64 (ar.xop (match n + 1 with | 1 => 1 | _ => 3) [x, y, b])))), .s (.p (.v (.int .u64 (ar.xop (match n + 1 with | 1 => 2 | _ => 4) [x, y, b]))))])
        | none => False
      | none => False
    | none => False
  | _, _ => False

/-- The functions that the model enters. -/
structure Enters (P : Program) : Prop where
  fn : ∀ f, entered f = true → ∀ args w, (callFunc f args).run P w = .ok (.enter f args) w
  mixed : P.follows .mixedOrders = true
  apart : ∀ f, Eng.ext f ≠ 0 → entered f = false
  eqs : ∀ t, eqT t = true → EqOk P t
  ext : ∀ f, Eng.ext f ≠ 0 → ∀ args w, (callFunc f args).run P w = ((extE (Eng.ext f) args).run P w).andThen fun v w' => .ok (.value v) w'

/-! ### A slice's cells as an array -/
def sapP (t : TypeId) (x : SV) (k : SV → Prop) : Prop :=
  match (tt t).d with
  | .arr n _ => match x with
    | .s (.p (.sl xs _)) => if 0 < n then ∃ ws : List Value, ws.length = n ∧ xs.take n = ws.map (fun w => [PS.c (.v w)]) ∧ k (.s (.ipt [.r n ws] 0)) else False
    | _ => False
  | _ => False

theorem cells_of_rows {m : Mem} : ∀ {ws : List Value} {b o sz : Nat}, RepE m (ws.map fun w => [PS.c (.v w)]) b o sz → ∀ (j : Nat) (w : Value), ws[j]? = some w → m b (o + j) = some w ∧ w.oneCell' = true
  | ws, b, o, sz, r, j, w, hj => by
    have h := RepE.get r j [PS.c (.v w)] (by simp [hj])
    have hsz : sz = 1 := by rw [← h.1]; rfl
    subst hsz
    obtain ⟨w', h1, h2⟩ := h.2.1
    simp only [RepV] at h2
    obtain ⟨rfl, h3⟩ := h2
    exact ⟨by simpa using h1, h3⟩

theorem sapP_spec {P : Program} (hT : TTok P) {E : Env} {st : St} {a : Act} {o : Oper} {t : TypeId} {x : Operand} {K : SV → Prop}
    (hF : RepF E st.fr a.tmps.toList) (ho : o.op = .sliceToArrayPointer t x) (hk : sapP t (st.ev 0 x) K) : ∃ sv v, K sv ∧ (∀ W, (execOp a.eval o).run P W = .ok (.value v) W) ∧ RepS E sv v := by
  have hx := RepS.ev hF 0 x
  generalize st.ev 0 x = sx at *
  unfold sapP at hk
  split at hk
  · rename_i n e hd
    obtain ⟨d, hd1, hd2⟩ := (hT.of_ok (t := t) (by rw [hd]; rfl)).desc
    rw [hd] at hd2
    cases d <;> try exact False.elim hd2
    obtain ⟨rfl, rfl⟩ := hd2
    split at hk
    · rename_i xs s
      split at hk
      · rename_i hn
        obtain ⟨ws, hl, hws, hk⟩ := hk
        have hx : RepV E.μ (.sl xs s) (a.eval x) := hx
        simp only [RepV] at hx
        obtain ⟨ad, cap, ew, hcap, hr⟩ := hx
        have hlen : (xs.take n).length = n := by rw [hws]; simpa using hl
        have hge : n ≤ xs.length := by rw [List.length_take] at hlen; omega
        rcases hr with ⟨h1, _⟩ | ⟨b, o', sz, had, hrow, _⟩
        · subst h1; simp at hge; omega
        · subst had
          have hrow' := hrow.take n
          rw [hws] at hrow'
          refine ⟨_, .pointer (some ⟨b, o', none⟩), hk, fun W => ?_, b, o', rfl, ?_⟩
          · unfold execOp
            simp only [ho, ew]
            simp [Instr.arrayAt, run_underlying hd1, Nat.not_lt.2 hge]
          · simp only [RepC, RepP]
            exact ⟨⟨hl, fun j w hj => cells_of_rows hrow' j w hj⟩, trivial⟩
      · exact hk.elim
    · exact hk.elim
  · exact hk.elim

/-- An operation whose value hangs on no more of the world than on cells that stand. -/
def valP (ar : Ar) (o : Oper) (st : St) (k : SV → St → Prop) : Prop :=
  match o.op with
  | .load t p => match treAt st (st.ev 0 p) with
    | true => tLoadP ar st t (st.ev 0 p) k
    | false => match nestAt st (st.ev 0 p) with
      | false => loadAny st t (st.ev 0 p) fun sv => k sv st
      | true => nLoadP ar st t (st.ev 0 p) k
  | .indexAddr t x i => match treAt st (st.ev 0 x) with
    | true => tIndexP ar st t (st.ev 0 x) (st.ev 0 i) fun sv => k sv st
    | false => match nestAt st (st.ev 0 x) with
      | false => indexP ar st t (st.ev 0 x) (st.ev 0 i) fun sv => k sv st
      | true => nIndexP ar st t (st.ev 0 x) (st.ev 0 i) fun sv => k sv st
  | .binOp op xT x y _ => match (tt xT).d with
    | .int _ => binIP ar op (st.ev xT x) (st.ev xT y) fun sv => k sv st
    | .bool => binBP ar op (st.ev xT x) (st.ev xT y) fun sv => k sv st
    | .arr n e => eqAggP ar op n e (st.ev xT x) (st.ev xT y) fun sv => k sv st
    | .ptr _ => ptrEqP op (st.ev xT x) (st.ev xT y) fun sv => k sv st
    | .struct _ => if eqT xT = true then eqFlatP ar op xT (st.ev xT x) (st.ev xT y) fun sv => k sv st else False
    | _ => False
  | .build t parts => match buildSV st t parts.toList with
    | some sv => k sv st
    | none => False
  | .slice t x lo hi mx => match mx with
    | none => match treAt st (st.ev 0 x) with
      | true => tCutP ar st t (st.ev 0 x) lo hi k
      | false => match nestAt st (st.ev 0 x) with
        | false => match cutAt st (st.ev 0 x) with
          | false => sliceP ar st t (st.ev 0 x) lo hi k
          | true => aCutP ar st t (st.ev 0 x) lo hi k ∨ sliceP ar st t (st.ev 0 x) lo hi k
        | true => nCutP ar st t (st.ev 0 x) lo hi k
    | some _ => False
  | .call c => match c.callee with
    | .builtin .len => match c.args.toList, c.argTypes.toList with
      | [x], [t] => match treAt st (st.ev t x) with
        | true => tLenP ar st t (st.ev t x) fun sv => k sv st
        | false => match nestAt st (st.ev t x) with
          | false => match lenSV ar st t (st.ev t x) with | some sv => k sv st | none => False
          | true => nLenP ar st t (st.ev t x) fun sv => k sv st
      | _, _ => False
    | .builtin .max => match c.args.toList, c.argTypes.toList with
      | [x, y], [_, _] => mmP true (st.ev 0 x) (st.ev 0 y) fun sv => k sv st
      | _, _ => False
    | .builtin .min => match c.args.toList, c.argTypes.toList with
      | [x, y], [_, _] => mmP false (st.ev 0 x) (st.ev 0 y) fun sv => k sv st
      | _, _ => False
    | .value (.func f) => extP ar (ext f) (evs st c.args.toList) fun sv => k sv st
    | _ => False
  | .index t x i => match (tt t).d with
    | .str => strAtP (st.ev t x) (st.ev 0 i) fun sv => k sv st
    | .arr n e => arrAtP (st.ev t x) (st.ev 0 i) n e fun sv => k sv st
    | _ => False
  | .makeFunc fn first caps => match funcSV st fn first.toList caps.toList with
    | some sv => k sv st
    | none => False
  | .sliceToArrayPointer t x => sapP t (st.ev 0 x) fun sv => k sv st
  | op => match valOp ar st o.type op with | some sv => k sv st | none => False

def ptrs : List (Nat × Nat) → List SV
  | [] => []
  | (k, off) :: l => .s (.ptr k off) :: ptrs l

/-- A function value is called. -/
def callDyn (il : Bool) (ar : Ar) (Γ : Ctx) (st : St) (fv : SV) (svs : List SV) (k : SV → St → Prop) : Prop :=
  match fv with
  | .s (.p (.v (.func (.func f) first captured))) => match first.toList with
    | [] => match captured.toList with
      | [] => if entered f = true then callFn il ar Γ st f svs k else False
      | _ => False
    | _ => False
  | .s (.clo f caps) => if entered f = true then callFn il ar Γ st f (svs ++ ptrs caps) k else False
  | _ => False

def opP (il : Bool) (ar : Ar) (Γ : Ctx) (o : Oper) (st : St) (k : SV → St → Prop) : Prop :=
  match o.op with
  | .alloc t => allocP st t k
  | .box t x => boxP st (st.ev t x) k
  | .store t p x => match treAt st (st.ev 0 p) with
    | true => tStoreP ar st t (st.ev 0 p) (st.ev t x) k
    | false => match nestAt st (st.ev 0 p) with
      | false => storeP ar st t (st.ev 0 p) (st.ev t x) k
      | true => nStoreP ar st t (st.ev 0 p) (st.ev t x) k
  | .makeSlice t l c => makeP ar st t (st.ev 0 l) (st.ev 0 c) k
  | .call c => match c.callee with
    | .builtin .append => match c.args.toList, c.argTypes.toList with
      | [s, x], [t, t'] => if t = t' then (match treAt st (st.ev 0 s) with
        | true => tAppP ar st t (st.ev 0 s) (st.ev 0 x) k
        | false => match nestAt st (st.ev 0 s) with
          | false => appendP ar st t (st.ev 0 s) (st.ev 0 x) k
          | true => nAppP ar st t (st.ev 0 s) (st.ev 0 x) k) else False
      | _, _ => False
    | .builtin .copy => match c.args.toList, c.argTypes.toList with
      | [d, x], [t, _] => match st.ev 0 d with
        | .s (.psl j base n lo) => copyQ ar st t j base n lo (st.ev 0 x) k
        | .s (.bsl j off n _) => copyQ ar st t j off n 0 (st.ev 0 x) k
        | sd => match treAt st sd with
          | true => tCopyP ar st t sd (st.ev 0 x) k
          | false => copyP ar st t sd (st.ev 0 x) k
      | _, _ => False
    | .builtin .clear => match c.args.toList, c.argTypes.toList with
      | [x], [t] => clearQ ar st t (st.ev 0 x) k
      | _, _ => False
    | .value (.func f) => if entered f = true then callFn (il || wild f) ar Γ st f (evs st c.args.toList) k else valP ar o st k
    | .value (.tmp t) => callDyn il ar Γ st (st.ev 0 (.tmp t)) (evs st c.args.toList) k
    | _ => valP ar o st k
  | .buildSlice t n parts => bsliceP ar st t n parts.toList k
  | _ => valP ar o st k

theorem Nexts.weak {c c' : Bool} {B : Nat} {W0 : World} {m0 : Mem} {a : Act} {W : World} {o : Oper} {next : Act → World → Prop} {k : SV → St → Prop} (h : Nexts c B W0 m0 a W o next k) (e : c = c') : Nexts c' B W0 m0 a W o next k := e ▸ h

theorem call_eq {c : Call} {cl : Callee} {xs : List Operand} {us : List TypeId} (h1 : c.callee = cl) (h2 : c.args.toList = xs) (h3 : c.argTypes.toList = us) : c = { callee := cl, args := xs.toArray, argTypes := us.toArray } := by
  cases c
  simp only at h1 h2 h3
  subst h1 h2 h3
  simp

theorem extP_spec {P : Program} (hfs : Enters P) {E : Env} {st : St} {a : Act} {o : Oper} {f : FuncId} {xs : Array Operand} {ts : Array TypeId} {k : SV → Prop} (hF : RepF E st.fr a.tmps.toList)
    (ho : o.op = .call { callee := .value (.func f), args := xs, argTypes := ts }) (h : extP arS (ext f) (evs st xs.toList) k) : ∃ sv v, k sv ∧ (∀ W, (execOp a.eval o).run P W = .ok (.value v) W) ∧ RepS E sv v := by
  have hev := RepF.evs hF xs.toList
  have hne : ext f ≠ 0 := fun e => by rw [e] at h; exact h
  have hext := hfs.ext f hne
  have run : ∀ v, (∀ W, (extE (ext f) (xs.map a.eval)).run P W = .ok v W) → ∀ W, (execOp a.eval o).run P W = .ok (.value v) W := fun v hr W => by
    have h1 := hext (xs.map a.eval) W
    rw [hr W] at h1
    unfold execOp
    simp only [ho]
    simp [resolve, Act.eval, Deferred.ofValue, invoke, h1]
  generalize hn : ext f = n at *
  generalize evs st xs.toList = svs at *
  unfold extP at h
  split at h
  · exact h.elim
  · rename_i n cx cy cb
    split at h
    · rename_i k1 x l1 hx
      split at h
      · rename_i k2 y l2 hy
        split at h
        · rename_i k3 b l3 hb
          obtain ⟨hs, hk⟩ := h
          obtain ⟨v1, r1, e1, h1, v2, r2, e2, h2, v3, r3, e3, h3, e4⟩ := hev
          have e5 : xs.map a.eval = #[v1, v2, v3] := by
            refine Array.toList_inj.1 ?_
            rw [Array.toList_map, e1, e2, e3, show r3 = [] from e4]
          rw [intOf_spec h1 hx, intOf_spec h2 hy, intOf_spec h3 hb] at e5
          refine ⟨_, _, hk, run _ (fun W => by rw [e5]; exact run_extE (hs trivial) W), _, rfl, _, _, rfl, ?_, _, _, rfl, ?_, rfl⟩
          · exact ⟨rfl, rfl⟩
          · exact ⟨rfl, rfl⟩
        · exact h.elim
      · exact h.elim
    · exact h.elim
  · exact h.elim

theorem valP_spec {P : Program} (hT : TTok P) (hfs : Enters P) {B : Nat} {W0 : World} {m0 : Mem} {E : Env} {st : St} {a : Act} {W : World} {o : Oper} {k : SV → St → Prop}
    (h : Sim B W0 m0 E st a W) (hk : valP arS o st k) : ∃ sv st' E' v, k sv st' ∧ Sim B W0 m0 E' st' a W ∧ (∀ W', (isLoad o.op = true → Keeps W W') → (execOp a.eval o).run P W' = .ok (.value v) W') ∧ RepS E' sv v := by
  have all : (∃ sv v, k sv st ∧ (∀ W, (execOp a.eval o).run P W = .ok (.value v) W) ∧ RepS E sv v) → ∃ sv st' E' v, k sv st' ∧ Sim B W0 m0 E' st' a W ∧ (∀ W', (isLoad o.op = true → Keeps W W') → (execOp a.eval o).run P W' = .ok (.value v) W') ∧ RepS E' sv v :=
    fun ⟨sv, v, h1, h2, h3⟩ => ⟨sv, st, E, v, h1, h, fun W' _ => h2 W', h3⟩
  unfold valP at hk
  split at hk
  case h_1 t p ho =>
    split at hk
    · obtain ⟨sv, st', E', v, h1, h2, h3, h4⟩ := tLoadP_spec hT h ho hk
      exact ⟨sv, st', E', v, h1, h2, fun W' hW => h3 W' (hW (by rw [ho]; rfl)), h4⟩
    · split at hk
      · obtain ⟨sv, v, h1, h2, h3⟩ := loadAny_spec hT h.inv h.fr ho hk
        exact ⟨sv, st, E, v, h1, h, fun W' hW => h2 W' (hW (by rw [ho]; rfl)), h3⟩
      · obtain ⟨sv, st', E', v, h1, h2, h3, h4⟩ := nLoadP_spec hT h ho hk
        exact ⟨sv, st', E', v, h1, h2, fun W' hW => h3 W' (hW (by rw [ho]; rfl)), h4⟩
  case h_2 t x i ho =>
    split at hk
    · exact all (tIndexP_spec (k := fun sv => k sv st) hT h.inv h.fr ho hk)
    · split at hk
      · exact all (indexP_spec (k := fun sv => k sv st) hT h.inv h.fr ho hk)
      · exact all (nIndexP_spec (k := fun sv => k sv st) hT h.inv h.fr ho hk)
  case h_3 op xT x y yT ho =>
    split at hk
    · exact all (binIP_spec (K := fun sv => k sv st) h.fr ho hk)
    · rename_i hd
      exact all (binBP_spec (K := fun sv => k sv st) hT hd h.fr ho hk)
    · rename_i n e hd
      exact all (eqAggP_spec (K := fun sv => k sv st) hT hd h.fr ho hk)
    · rename_i e hd
      exact all (ptrEqP_spec (K := fun sv => k sv st) hT hd h.fr ho hk)
    · rename_i fs hd
      split at hk
      · rename_i he
        exact all (eqFlatP_spec (K := fun sv => k sv st) hT hd (hfs.eqs _ he) h.fr ho hk)
      · exact hk.elim
    · exact hk.elim
  case h_4 t parts ho =>
    split at hk
    · rename_i sv hv
      obtain ⟨v, hr, hs⟩ := buildSV_spec hT h.fr ho hv
      exact all ⟨sv, v, hk, hr, hs⟩
    · exact hk.elim
  case h_5 t x lo hi mx ho =>
    split at hk
    · split at hk
      · obtain ⟨sv, st', E', v, h1, h2, h3, h4⟩ := tCutP_spec hT h ho hk
        exact ⟨sv, st', E', v, h1, h2, fun W' _ => h3 W', h4⟩
      · split at hk
        · split at hk
          · obtain ⟨sv, st', E', v, h1, h2, h3, h4⟩ := sliceP_spec hT h ho hk
            exact ⟨sv, st', E', v, h1, h2, fun W' _ => h3 W', h4⟩
          · rcases hk with hk | hk
            · obtain ⟨sv, st', E', v, h1, h2, h3, h4⟩ := aCutP_spec hT h ho hk
              exact ⟨sv, st', E', v, h1, h2, fun W' _ => h3 W', h4⟩
            · obtain ⟨sv, st', E', v, h1, h2, h3, h4⟩ := sliceP_spec hT h ho hk
              exact ⟨sv, st', E', v, h1, h2, fun W' _ => h3 W', h4⟩
        · obtain ⟨sv, st', E', v, h1, h2, h3, h4⟩ := nCutP_spec hT h ho hk
          exact ⟨sv, st', E', v, h1, h2, fun W' _ => h3 W', h4⟩
    · exact hk.elim
  case h_6 c ho =>
    split at hk
    · rename_i hc
      split at hk
      · rename_i x t h1 h2
        split at hk
        · exact all (tLenP_spec (k := fun sv => k sv st) hT h.inv h.fr (ho.trans (congrArg Op.call (call_eq hc h1 h2))) hk)
        split at hk
        · split at hk
          · rename_i sv hv
            obtain ⟨v, hr, hs⟩ := lenSV_spec hT h.inv h.fr (ho.trans (congrArg Op.call (call_eq hc h1 h2))) hv
            exact all ⟨sv, v, hk, hr, hs⟩
          · exact hk.elim
        · exact all (nLenP_spec (k := fun sv => k sv st) hT h.inv h.fr (ho.trans (congrArg Op.call (call_eq hc h1 h2))) hk)
      · exact hk.elim
    · rename_i hc
      split at hk
      · rename_i x y t t' h1 h2
        exact all (mmP_spec (mx := true) (K := fun sv => k sv st) h.fr (ho.trans (congrArg Op.call (call_eq hc h1 h2))) hk)
      · exact hk.elim
    · rename_i hc
      split at hk
      · rename_i x y t t' h1 h2
        exact all (mmP_spec (mx := false) (K := fun sv => k sv st) h.fr (ho.trans (congrArg Op.call (call_eq hc h1 h2))) hk)
      · exact hk.elim
    · rename_i f hc
      refine all (extP_spec (k := fun sv => k sv st) hfs h.fr (xs := c.args) (ts := c.argTypes) (ho.trans (congrArg Op.call ?_)) hk)
      cases c
      simp only at hc
      subst hc
      rfl
    · exact hk.elim
  case h_7 t x i ho =>
    split at hk
    · rename_i hd
      exact all (strAtP_spec (K := fun sv => k sv st) hT hd h.fr ho hk)
    · rename_i n e hd
      exact all (arrAtP_spec (K := fun sv => k sv st) hT hd h.fr ho hk)
    · exact hk.elim
  case h_8 fn first caps ho =>
    split at hk
    · rename_i sv hv
      obtain ⟨v, hr, hs⟩ := funcSV_spec h.fr ho hv
      exact all ⟨sv, v, hk, hr, hs⟩
    · exact hk.elim
  case h_9 t x ho => exact all (sapP_spec (K := fun sv => k sv st) hT h.fr ho hk)
  case h_10 =>
    split at hk
    · rename_i sv hv
      obtain ⟨v, hr, hs⟩ := valOp_spec hT h.fr hv
      exact all ⟨sv, v, hk, hr, hs⟩
    · exact hk.elim

theorem ptrs_spec {E : Env} : ∀ {cs : List (Nat × Nat)}, (∀ c ∈ cs, c.1 < E.n) → RepF E (ptrs cs) (capVals E cs)
  | [], _ => rfl
  | c :: cs, h => ⟨_, _, rfl, ⟨h c (by simp), rfl⟩, ptrs_spec fun d hd => h d (by simp [hd])⟩

theorem RepF.append {E : Env} : ∀ {xs ys : List SV} {ws vs : List Value}, RepF E xs ws → RepF E ys vs → RepF E (xs ++ ys) (ws ++ vs)
  | [], _, _, _, h, k => by rw [show _ = [] from h]; exact k
  | _ :: _, _, _, _, ⟨w, ws', e, hv, hr⟩, k => by subst e; exact ⟨w, _, rfl, hv, hr.append k⟩

theorem opP_spec {il : Bool} {P : Program} (hT : TTok P) (hfs : Enters P) {Γ : Ctx} (hG : Γ.Ok P) {B : Nat} {W0 : World} {m0 : Mem} {E : Env} {st : St} {a : Act} {W : World} {o : Oper} {k : SV → St → Prop} {next : Act → World → Prop} {Q : Exit → Act → World → Prop}
    (h : Sim B W0 m0 E st a W) (hk : opP il arS Γ o st k) (hn : Nexts (!il && calmOp o.op) B W0 m0 a W o next k) : o.wp P a W next Q := by
  have val : valP arS o st k → o.wp P a W next Q := fun hk => by
    obtain ⟨sv, st', E', v, hk, h', hr, hs⟩ := valP_spec hT hfs h hk
    exact wp_value (hr W fun _ => Keeps.refl W) (hn _ _ _ _ _ hk h' hs fun _ => Keeps.refl W)
  unfold opP at hk
  split at hk
  case h_1 t ho => exact allocP_spec hT h ho hk hn
  case h_2 t x ho => exact boxP_spec h ho hk hn
  case h_3 t p x ho =>
    split at hk
    · exact tStoreP_spec hT h ho hk (hn.weak (by rw [ho]; cases il <;> rfl))
    split at hk
    · exact storeP_spec hT h ho hk (hn.weak (by rw [ho]; cases il <;> rfl))
    · exact nStoreP_spec hT h ho hk (hn.weak (by rw [ho]; cases il <;> rfl))
  case h_4 t l c ho => exact makeP_spec hT h ho hk hn
  case h_5 c ho =>
    split at hk
    · rename_i hc
      split at hk
      · rename_i s x t t' h1 h2
        split at hk
        · rename_i ht
          subst ht
          split at hk
          · exact tAppP_spec hT h (ho.trans (congrArg Op.call (call_eq hc h1 h2))) hk (hn.weak (by rw [ho]; simp only [calmOp, hc]; cases il <;> rfl))
          split at hk
          · exact appendP_spec hT h (ho.trans (congrArg Op.call (call_eq hc h1 h2))) hk (hn.weak (by rw [ho]; simp only [calmOp, hc]; cases il <;> rfl))
          · exact nAppP_spec hT h (ho.trans (congrArg Op.call (call_eq hc h1 h2))) hk (hn.weak (by rw [ho]; simp only [calmOp, hc]; cases il <;> rfl))
        · exact hk.elim
      · exact hk.elim
    · rename_i hc
      split at hk
      · rename_i d x t t' h1 h2
        split at hk
        · rename_i j base n lo hd
          exact copyQ_spec hT h (ho.trans (congrArg Op.call (call_eq hc h1 h2))) (fun E1 e1 => by
            have hd2 := RepS.mono e1 (RepS.ev h.fr 0 d)
            rw [hd] at hd2
            obtain ⟨_, hlo, o', ed, ho'⟩ := hd2
            exact ⟨hlo, o', _, ed, ho'⟩) hk (hn.weak (by rw [ho]; simp only [calmOp, hc]; cases il <;> rfl))
        · rename_i j off n sz hd
          exact copyQ_spec hT h (ho.trans (congrArg Op.call (call_eq hc h1 h2))) (fun E1 e1 => by
            have hd2 := RepS.mono e1 (RepS.ev h.fr 0 d)
            rw [hd] at hd2
            obtain ⟨_, o', cap, ed, _, ho'⟩ := hd2
            exact ⟨Nat.zero_le _, o', cap, ed, ho'⟩) hk (hn.weak (by rw [ho]; simp only [calmOp, hc]; cases il <;> rfl))
        · split at hk
          · exact tCopyP_spec hT h (ho.trans (congrArg Op.call (call_eq hc h1 h2))) hk (hn.weak (by rw [ho]; simp only [calmOp, hc]; cases il <;> rfl))
          exact copyP_spec hT h (ho.trans (congrArg Op.call (call_eq hc h1 h2))) hk (hn.weak (by rw [ho]; simp only [calmOp, hc]; cases il <;> rfl))
      · exact hk.elim
    · rename_i hc
      split at hk
      · rename_i x t h1 h2
        exact clearQ_spec hT h (ho.trans (congrArg Op.call (call_eq hc h1 h2))) hk (hn.weak (by rw [ho]; simp only [calmOp, hc]; cases il <;> rfl))
      · exact hk.elim
    · rename_i f hc
      split at hk
      · rename_i hf
        refine callFn_spec (il := il || wild f) (c0 := true) hT hG (hfs.fn f hf) ?_ h (RepF.evs h.fr c.args.toList) hk (hn.weak (by rw [ho]; simp only [calmOp, hc]; cases il <;> cases wild f <;> rfl))
        have earr : (c.args.toList.map a.eval).toArray = c.args.map a.eval := Array.toList_inj.1 (by rw [Array.toList_map])
        unfold execOp
        simp only [ho]
        simp [resolve, hc, Act.eval, Deferred.ofValue, invoke, earr]
      · exact val hk
    · rename_i t hc
      have hx := RepS.ev h.fr 0 (.tmp t)
      have earr : (c.args.toList.map a.eval).toArray = c.args.map a.eval := Array.toList_inj.1 (by rw [Array.toList_map])
      generalize st.ev 0 (.tmp t) = sx at *
      unfold callDyn at hk
      split at hk
      · rename_i f first captured
        split at hk
        · rename_i h1
          split at hk
          · rename_i h2
            split at hk
            · rename_i hf
              have e : a.eval (.tmp t) = .func (.func f) #[] #[] := by
                have e0 : a.eval (.tmp t) = .func (.func f) first captured := hx.1
                rw [e0, Array.toList_inj.1 (show first.toList = (#[] : Array Value).toList from h1), Array.toList_inj.1 (show captured.toList = (#[] : Array Value).toList from h2)]
              refine callFn_spec hT hG (hfs.fn f hf) ?_ h (RepF.evs h.fr c.args.toList) hk hn
              unfold execOp
              simp only [ho]
              simp [resolve, hc, e, Deferred.ofValue, invoke, earr]
            · exact hk.elim
          · exact hk.elim
        · exact hk.elim
      · rename_i f caps
        split at hk
        · rename_i hf
          have e : a.eval (.tmp t) = .func (.func f) #[] (capVals E caps).toArray := hx.2
          refine callFn_spec hT hG (hfs.fn f hf) ?_ h ((RepF.evs h.fr c.args.toList).append (ptrs_spec hx.1)) hk hn
          have earr2 : (c.args.toList.map a.eval ++ capVals E caps).toArray = c.args.map a.eval ++ (capVals E caps).toArray := by rw [← earr]; simp
          unfold execOp
          simp only [ho]
          simp [resolve, hc, e, Deferred.ofValue, invoke, earr2]
        · exact hk.elim
      · exact hk.elim
    · exact val hk
  case h_6 t n parts ho => exact bsliceP_spec hT h ho hk hn
  case h_7 => exact val hk

/-! ### Regions -/
def putF (fr : List SV) (dst : Option Tmp) (sv : SV) : List SV :=
  match dst with
  | some d => fr.set d sv
  | none => fr

theorem Sim.put {B : Nat} {W0 : World} {m0 : Mem} {E : Env} {st : St} {a : Act} {W : World} {sv : SV} {v : Value} (h : Sim B W0 m0 E st a W) (hs : RepS E sv v) (dst : Option Tmp) : Sim B W0 m0 E ⟨putF st.fr dst sv, st.ob⟩ (a.put dst v) W := by
  cases dst with
  | none => exact h
  | some d =>
    refine ⟨h.inv, ?_, h.below, h.grew, h.had, h.defers⟩
    have := h.fr.set d sv v hs
    simpa [Act.put, putF] using this

def guardSlot (ops : List Oper) (j : Nat) : Option Tmp :=
  match ops[j]? with
  | some o => o.dst
  | none => none

def guarded (ops : List Oper) (o : Oper) (st : St) (run skip : St → Prop) : Prop :=
  match o.guard with
  | none => run st
  | some (j, want) => match guardSlot ops j with
    | some d => match st.fr[d]? with
      | some (.s (.bl b)) => match (b == want) with
        | true => run st
        | false => skip st
      | some .ud => skip st
      | some (.s (.p (.v (.bool b)))) => (b = want → run ⟨st.fr.set d (.s (.bl want)), st.ob⟩) ∧ (b = !want → skip ⟨st.fr.set d (.s (.bl (!want))), st.ob⟩)
      | _ => False
    | none => False

def vcOps (il : Bool) (ar : Ar) (Γ : Ctx) (ops : List Oper) : List Oper → St → (St → Prop) → Prop
  | [], st, k => k st
  | o :: rest, st, k => guarded ops o st (fun st => opP il ar Γ o st fun sv st' => vcOps il ar Γ ops rest ⟨putF st'.fr o.dst sv, st'.ob⟩ k) (fun st => vcOps il ar Γ ops rest ⟨putF st.fr o.dst .ud, st.ob⟩ k)

theorem Sim.set {B : Nat} {W0 : World} {m0 : Mem} {E : Env} {st : St} {a : Act} {W : World} {d : Nat} {b : Bool} (h : Sim B W0 m0 E st a W) (hd : st.fr[d]? = some (.s (.p (.v (.bool b))))) : Sim B W0 m0 E ⟨st.fr.set d (.s (.bl b)), st.ob⟩ a W := by
  refine ⟨h.inv, ?_, h.below, h.grew, h.had, h.defers⟩
  obtain ⟨w, hw, hs⟩ := h.fr.get d _ hd
  have e : w = .bool b := hs.1
  subst e
  have := h.fr.set d (.s (.bl b)) (.bool b) rfl
  have e2 : a.tmps.toList.set d (.bool b) = a.tmps.toList := by
    refine List.ext_getElem? fun i => ?_
    rw [List.getElem?_set]
    split
    · rename_i hdi; subst hdi; split
      · exact hw.symm
      · rename_i hlt; rw [List.getElem?_eq_none (by omega)]
    · rfl
  rw [e2] at this
  exact this

theorem guarded_spec {B : Nat} {W0 : World} {m0 : Mem} {ops : Array Oper} {E : Env} {st : St} {a : Act} {W : World} {o : Oper} {run skip : St → Prop} (h : Sim B W0 m0 E st a W) (hk : guarded ops.toList o st run skip) :
    (Region.wanted o (yielded ops a.tmps) = true ∧ ∃ st', Sim B W0 m0 E st' a W ∧ run st') ∨ (Region.wanted o (yielded ops a.tmps) = false ∧ ∃ st', Sim B W0 m0 E st' a W ∧ skip st') := by
  unfold guarded at hk
  split at hk
  · rename_i hg
    exact .inl ⟨by simp [Region.wanted, hg], st, h, hk⟩
  · rename_i j want hg
    split at hk
    · rename_i d hd
      have hy : ∀ b, st.fr[d]? = some (.s (.bl b)) ∨ st.fr[d]? = some (.s (.p (.v (.bool b)))) → Region.wanted o (yielded ops a.tmps) = (b == want) := fun b hb => by
        have hw : a.tmps[d]? = some (.bool b) := by
          rcases hb with hb | hb
          · obtain ⟨w, hw, hs⟩ := h.fr.get d _ hb
            rw [show w = _ from hs] at hw
            simpa using hw
          · obtain ⟨w, hw, hs⟩ := h.fr.get d _ hb
            rw [show w = _ from hs.1] at hw
            simpa using hw
        have hd' : (ops[j]?).bind (·.dst) = some d := by
          unfold guardSlot at hd
          rw [Array.getElem?_toList] at hd
          cases hj : ops[j]? with
          | none => rw [hj] at hd; cases hd
          | some oj => rw [hj] at hd; simpa using hd
        simp only [Region.wanted, hg, yielded, hd', Option.bind_some, hw]
        simp
      split at hk
      · rename_i b hb
        rw [hy b (.inl hb)]
        split at hk
        · rename_i e; exact .inl ⟨e, st, h, hk⟩
        · rename_i e; exact .inr ⟨e, st, h, hk⟩
      · rename_i hb
        refine .inr ⟨?_, st, h, hk⟩
        have hw : a.tmps[d]? = some undef := by
          obtain ⟨w, hw, hs⟩ := h.fr.get d _ hb
          rw [show w = _ from hs] at hw
          simpa using hw
        have hd' : (ops[j]?).bind (·.dst) = some d := by
          unfold guardSlot at hd
          rw [Array.getElem?_toList] at hd
          cases hj : ops[j]? with
          | none => rw [hj] at hd; cases hd
          | some oj => rw [hj] at hd; simpa using hd
        simp only [Region.wanted, hg, yielded, hd', Option.bind_some, hw]
        simp [undef]
      · rename_i b hb
        rw [hy b (.inr hb)]
        by_cases e : b = want
        · subst e
          exact .inl ⟨by simp, _, h.set hb, hk.1 rfl⟩
        · have e' : b = !want := by cases b <;> cases want <;> simp_all
          have := hk.2 e'
          subst e'
          exact .inr ⟨by simp, _, h.set hb, this⟩
      · exact hk.elim
    · exact hk.elim

theorem vcOps_spec {P : Program} (hT : TTok P) (hfs : Enters P) {Γ : Ctx} (hG : Γ.Ok P) {B : Nat} {W0 : World} {m0 : Mem} {ops : Array Oper} {Q : Exit → Act → World → Prop} {k : St → Prop} (hQ : ∀ E st a W, k st → Sim B W0 m0 E st a W → Q .normal a W) :
    ∀ (l : List Oper) {E : Env} {st : St} {a : Act} {W : World}, Sim B W0 m0 E st a W → vcOps true arS Γ ops.toList l st k → wpList P ops Q l a W
  | [], E, st, a, W, h, hk => hQ E st a W hk h
  | o :: rest, E, st, a, W, h, hk => by
    unfold vcOps at hk
    unfold wpList
    rcases guarded_spec h hk with ⟨hw, st', h', hk⟩ | ⟨hw, st', h', hk⟩
    · rw [if_pos hw]
      exact .inl (opP_spec (il := true) hT hfs hG h' hk fun sv st' E' W' v hk' hs hr _ => vcOps_spec hT hfs hG hQ rest (hs.put hr o.dst) hk')
    · rw [if_neg (by simp [hw])]
      exact vcOps_spec hT hfs hG hQ rest (h'.put (sv := .ud) (v := undef) rfl o.dst) hk

end Go.Eng
