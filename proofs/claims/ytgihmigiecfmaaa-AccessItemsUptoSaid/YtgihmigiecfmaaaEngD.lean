/-
  What a value used as a whole becomes; the operations that only reckon.
-/
import Derived.Test.YtgihmigiecfmaaaEngC
namespace Go.Eng
open Go Go.RowKit

/-- E' knows all that E knows, of no more objects; what memory it has gained lies from block B on. -/
structure Ext (B : Nat) (E E' : Env) : Prop where
  le : E.le E'
  n : E'.n = E.n
  grew : ∀ b o w, E'.μ b o = some w → E.μ b o = some w ∨ B ≤ b

theorem Ext.refl (B : Nat) (E : Env) : Ext B E E := ⟨Env.le_refl E, rfl, fun _ _ _ h => .inl h⟩
theorem Ext.trans {B : Nat} {a b c : Env} (h : Ext B a b) (k : Ext B b c) : Ext B a c :=
  ⟨Env.le_trans h.le k.le, k.n.trans h.n, fun x o w hm => (k.grew x o w hm).elim (h.grew x o w) .inr⟩

theorem CV.use_spec {B : Nat} {E : Env} {ob ob' : List Ob} {W : World} {c : CV} {w : Value} {x : PV} (h : Inv B E ob W) (hk : RepK E c w) (hu : c.use arS ob = some (x, ob')) :
    ∃ E', Ext B E E' ∧ Inv B E' ob' W ∧ RepV E'.μ x w := by
  have same : ∀ {y : PV}, some (y, ob) = some (x, ob') → RepV E.μ y w → ∃ E', Ext B E E' ∧ Inv B E' ob' W ∧ RepV E'.μ x w := fun e hr => by
    cases e; exact ⟨E, Ext.refl B E, h, hr⟩
  cases c with
  | p y => exact same hu hk
  | lit k n => exact same hu (by rw [show w = _ from hk, RepV]; exact ⟨rfl, rfl⟩)
  | bl b => exact same hu (by rw [show w = _ from hk, RepV]; exact ⟨rfl, rfl⟩)
  | nil => exact same hu (by rw [show w = _ from hk]; exact RepV.nil _)
  | own k =>
    simp only [CV.use] at hu
    split at hu
    · rename_i xs e sz by_ wr hok
      cases hu
      obtain ⟨E', h1, h2, h3, h4, h5⟩ := h.freezeArr hok
      exact ⟨E', ⟨h1, h2, h4⟩, h3, by rw [hk.2.1]; exact h5⟩
    · cases hu
  | bsl k off n sz =>
    have fin : ∀ {E' : Env} {ps : List PS} {xs : List (List PS)}, E.le E' → E'.n = E.n → RepC E'.μ ps (E'.ρ k) 0 → chunks arS ps off n sz = some xs → RepV E'.μ (.sl xs []) w := fun {E' ps xs} hle hn hc hx => by
      obtain ⟨hkn, o, cap, hw, hcap, ho⟩ := hk
      have := hc.chunks hx
      rw [RepV]
      refine ⟨some ⟨E.ρ k, o, none⟩, cap, by rw [hw, this.2], by simp [this.2, hcap], ?_⟩
      by_cases h0 : n = 0
      · exact .inl ⟨List.eq_nil_of_length_eq_zero (by rw [this.2, h0]), rfl⟩
      · refine .inr ⟨E.ρ k, o, sz, rfl, ?_, by simp [RepE]⟩
        rw [ho (by omega), ← hle.ρ k hkn]
        simpa using this.1
    simp only [CV.use] at hu
    split at hu
    · rename_i row hok
      split at hu
      · rename_i ps hps
        split at hu
        · rename_i xs hx
          cases hu
          obtain ⟨E', h1, h2, h3, h4⟩ := h.freezeBox hok hps
          have hc : RepC E'.μ ps (E'.ρ k) 0 := h3.obs k (.fbox ps) (by simp [(List.getElem?_eq_some_iff.1 hok).1])
          exact ⟨E', ⟨h1, h2, h4⟩, h3, fin h1 h2 hc hx⟩
        · cases hu
      · cases hu
    · rename_i ps hok
      split at hu
      · rename_i xs hx
        cases hu
        exact ⟨E, Ext.refl B E, h, fin (Env.le_refl E) rfl (h.obs k _ hok) hx⟩
      · cases hu
    · cases hu
  | ptr _ _ => cases hu
  | ept _ _ _ _ _ => cases hu
  | ipt _ _ => cases hu
  | psl _ _ _ _ => cases hu
  | clo _ _ => cases hu
  | dead => cases hu
  | stl _ => cases hu

theorem useRow_spec {B : Nat} {W : World} : ∀ {row : List Seg} {E : Env} {ob ob' : List Ob} {ws : List Value} {ps : List PS}, Inv B E ob W → RepG E row ws → useRow arS ob row = some (ps, ob') →
    ∃ E', Ext B E E' ∧ Inv B E' ob' W ∧ RepL E'.μ ps ws
  | [], E, _, _, _, _, h, hr, hu => by cases hu; exact ⟨E, Ext.refl B E, h, hr⟩
  | .c x :: l, E, ob, ob', _, ps, h, ⟨w, ws', e, hv, hr⟩, hu => by
    simp only [useRow] at hu
    split at hu
    · rename_i y ob1 h1
      split at hu
      · rename_i qs ob2 h2
        cases hu
        obtain ⟨E1, e1, i1, r1⟩ := CV.use_spec h hv h1
        obtain ⟨E2, e2, i2, r2⟩ := useRow_spec i1 (hr.mono e1.le) h2
        exact ⟨E2, e1.trans e2, i2, w, ws', e, RepV.mono e2.le.μ y w r1, r2⟩
      · cases hu
    · cases hu
  | .r n us :: l, E, ob, ob', _, ps, h, ⟨hl, ho, ws', e, hr⟩, hu => by
    simp only [useRow] at hu
    split at hu
    · rename_i qs ob2 h2
      cases hu
      obtain ⟨E2, e2, i2, r2⟩ := useRow_spec h hr h2
      exact ⟨E2, e2, i2, hl, ho, ws', e, r2⟩
    · cases hu

theorem SV.use_spec {B : Nat} {E : Env} {ob ob' : List Ob} {W : World} {c : SV} {w : Value} {x : PR} (h : Inv B E ob W) (hk : RepS E c w) (hu : c.use arS ob = some (x, ob')) :
    ∃ E', Ext B E E' ∧ Inv B E' ob' W ∧ RepR E'.μ x w := by
  cases c with
  | un => cases hu
  | ud => cases hu
  | t _ => cases hu
  | s c =>
    simp only [SV.use] at hu
    split at hu
    · rename_i y ob1 h1
      cases hu
      obtain ⟨E1, e1, i1, r1⟩ := CV.use_spec h hk h1
      exact ⟨E1, e1, i1, r1⟩
    · cases hu
  | a row =>
    simp only [SV.use] at hu
    split at hu
    · rename_i y ob1 h1
      cases hu
      obtain ⟨ws, e, hr⟩ := hk
      obtain ⟨E1, e1, i1, r1⟩ := useRow_spec h hr h1
      exact ⟨E1, e1, i1, ws, e, r1⟩
    · cases hu

theorem useAll_spec {B : Nat} {W : World} : ∀ {xs : List SV} {E : Env} {ob ob' : List Ob} {ws : List Value} {rs : List PR}, Inv B E ob W → RepF E xs ws → useAll arS ob xs = some (rs, ob') →
    ∃ E', Ext B E E' ∧ Inv B E' ob' W ∧ RepRs E'.μ rs ws
  | [], E, _, _, _, _, h, hr, hu => by cases hu; exact ⟨E, Ext.refl B E, h, hr⟩
  | x :: l, E, ob, ob', _, ps, h, ⟨w, ws', e, hv, hr⟩, hu => by
    simp only [useAll] at hu
    split at hu
    · rename_i y ob1 h1
      split at hu
      · rename_i qs ob2 h2
        cases hu
        obtain ⟨E1, e1, i1, r1⟩ := SV.use_spec h hv h1
        obtain ⟨E2, e2, i2, r2⟩ := useAll_spec i1 (hr.mono e1.le) h2
        exact ⟨E2, e1.trans e2, i2, w, ws', e, RepR.mono e2.le.μ y w r1, r2⟩
      · cases hu
    · cases hu

theorem RepT.getT {E : Env} : ∀ {rs : List TR} {ws : List Value} (_ : RepT E rs ws) (i : Nat) (r : TR), rs[i]? = some r → ∃ w, ws[i]? = some w ∧ RepS E r.sv w
  | [], _, _, i, x, h => by simp at h
  | .s c :: ps, _, ⟨w, ws', e, hv, hr⟩, i, x, h => by
    subst e
    cases i with
    | zero => simp at h; subst h; exact ⟨w, by simp, hv⟩
    | succ i => simp at h; simpa using RepT.getT hr i x h
  | .a row :: ps, _, ⟨us, ws', e, hv, hr⟩, i, x, h => by
    subst e
    cases i with
    | zero => simp at h; subst h; exact ⟨_, by simp, us, rfl, hv⟩
    | succ i => simp at h; simpa using RepT.getT hr i x h

/-! ### Types -/
theorem TIok.und {P : Program} {t : TypeId} {i : TI} (h : TIok P t i) : ∃ d, P.underlying t = some d ∧ i.d.fits d := h.desc

theorem fits_agg {d : TD} {D : TypeDesc} (h : d.fits D) : D.isRow = d.agg := by
  cases d <;> cases D <;> first | rfl | exact False.elim h

/-! ### What an operand is -/
theorem RepS.const {E : Env} {t : TypeId} (v : Value) : RepS E (constSV t v) v := by
  unfold constSV
  split
  · rename_i cs
    split
    · rename_i r hr
      exact ⟨cs.toList, by simp, RepG.shape hr⟩
    · trivial
  · trivial
  · rename_i h1 h2
    refine RepK.plain ?_
    cases v <;> first | rfl | exact absurd rfl (h1 _) | exact absurd rfl (h2 _)

theorem RepS.ev {E : Env} {st : St} {a : Act} (h : RepF E st.fr a.tmps.toList) (t : TypeId) (x : Operand) : RepS E (st.ev t x) (a.eval x) := by
  cases x with
  | tmp i =>
    simp only [St.ev, Act.eval]
    split
    · rename_i v hv
      obtain ⟨w, hw, hs⟩ := h.get i v hv
      have : a.tmps.getD i undef = w := by
        rw [Array.getElem?_toList] at hw
        simp [hw]
      rw [this]; exact hs
    · trivial
  | const v => exact RepS.const v
  | global g =>
    simp only [St.ev, Act.eval]
    split
    · rename_i row hg
      exact ⟨g, 0, rfl, E.gok g row hg⟩
    · trivial
  | func f => exact ⟨rfl, rfl⟩

/-! ### Loads -/
def addrRow (st : St) : SV → Option (List Seg × Nat)
  | .s (.ptr j off) => match st.ob[j]? with
    | some (.box row) => some (row, off)
    | some (.fbox row) => some (segs row, off)
    | _ => none
  | .s (.ipt row off) => some (segs row, off)
  | .s (.ept j 0 sz i off) => match st.ob[j]? with
    | some (.arr xs _ sz' _ _) => if sz = sz' then (match xs[i]? with | some row => some (segs row, off) | none => none) else none
    | _ => none
  | _ => none

def ldRow (i : TI) (row : List Seg) (off : Nat) : Option SV :=
  match i.d with
  | .bad => none
  | d => if d.agg then (if off = 0 ∧ glen row = i.size then some (.a row) else (match rsub row off i.size with | some r => some (.a r) | none => none))
    else (match rget row off with | some c => some (.s c) | none => none)

/-- Where a row lies in memory as it stands. -/
theorem addrRow_spec {B : Nat} {E : Env} {st : St} {W : World} {p : SV} {w : Value} {row : List Seg} {off : Nat} (h : Inv B E st.ob W) (hp : RepS E p w) (ha : addrRow st p = some (row, off)) :
    ∃ b o ws, w = .pointer (some ⟨b, o + off, none⟩) ∧ RepG E row ws ∧ ∀ (j : Nat) (v : Value), ws[j]? = some v → W.cell? ⟨b, o + j, none⟩ = some v := by
  have hseg : ∀ {r : List PS} {b o : Nat}, RepC E.μ r b o → ∃ ws, RepG E (segs r) ws ∧ ∀ (j : Nat) (v : Value), ws[j]? = some v → W.cell? ⟨b, o + j, none⟩ = some v := fun hc => by
    obtain ⟨ws, h1, h2⟩ := hc.values
    exact ⟨ws, RepG.of_pure h1, fun j v hj => h.mu _ _ _ (h2 j v hj)⟩
  unfold addrRow at ha
  split at ha
  · rename_i j off'
    split at ha
    · rename_i row' hj
      cases ha
      obtain ⟨_, ⟨t, ws, h2, h3⟩, _⟩ := h.obs j _ hj
      refine ⟨E.ρ j, 0, ws, by rw [Nat.zero_add]; exact hp.2, h3, fun i v hi => ?_⟩
      rw [Nat.zero_add, cell_of_row W _ i _ t (0, 0) h2]; simpa using hi
    · rename_i row' hj
      cases ha
      obtain ⟨ws, h1, h2⟩ := hseg (h.obs j _ hj)
      exact ⟨E.ρ j, 0, ws, by rw [Nat.zero_add]; exact hp.2, h1, h2⟩
    · cases ha
  · cases ha
    obtain ⟨b, o, e, hc⟩ := hp
    obtain ⟨ws, h1, h2⟩ := hseg hc
    exact ⟨b, o, ws, e, h1, h2⟩
  · rename_i j sz i off'
    split at ha
    · rename_i xs e sz' by_ wr hj
      split at ha
      · rename_i hsz
        subst hsz
        split at ha
        · rename_i row' hi
          cases ha
          obtain ⟨_, C, h1, h2, h3⟩ := h.obs j _ hj
          obtain ⟨hl, us, hu, hd⟩ := h2.get i _ hi
          have hlt : i < xs.length := (List.getElem?_eq_some_iff.1 hi).1
          have hb : (E.ov j).ownBlock = some (E.ρ j) := by
            rcases h1.2 with ⟨hv, hn⟩ | ⟨g, cap, cur, hv, _⟩
            · omega
            · have : (E.ov j).ownBlock = some g := by rw [hv]; rfl
              rw [this, (h3 g this).1]
          refine ⟨E.ρ j, i * sz, us, by rw [hp.2, Nat.zero_add], RepG.of_pure hu, fun q v hq => ?_⟩
          have hc := h1.cells hb (i * sz + q) v ?_
          · rw [Addr.add_mid, Nat.zero_add] at hc; exact hc
          · have hq' : q < us.length := (List.getElem?_eq_some_iff.1 hq).1
            rw [← hd, List.getElem?_take] at hq
            split at hq
            · rw [List.getElem?_drop] at hq; exact hq
            · cases hq
        · cases ha
      · cases ha
    · cases ha
  · cases ha

/-- Every cell of W stands in W'. -/
def Keeps (W W' : World) : Prop := ∀ a v, W.cell? a = some v → W'.cell? a = some v

theorem Keeps.refl (W : World) : Keeps W W := fun _ _ h => h
theorem Keeps.trans {a b c : World} (h : Keeps a b) (k : Keeps b c) : Keeps a c := fun x v e => k x v (h x v e)
theorem Keeps.grown {W W' : World} (h : W.grownBy W' none) : Keeps W W' := fun _ _ e => h.cell e (by simp)

theorem run_load_row {P : Program} (hT : TTok P) {E : Env} {W : World} {t : TypeId} {row : List Seg} {off b o : Nat} {ws : List Value} {sv : SV}
    (hr : RepG E row ws) (hc : ∀ (j : Nat) (v : Value), ws[j]? = some v → W.cell? ⟨b, o + j, none⟩ = some v) (hl : ldRow (tt t) row off = some sv) :
    ∃ v, (∀ W', Keeps W W' → (Instr.loadAt t (.pointer (some ⟨b, o + off, none⟩))).run P W' = .ok v W') ∧ RepS E sv v := by
  have hok : TIok P t (tt t) := by
    rcases hT t with h | h
    · simp [ldRow, h] at hl
    · exact h
  obtain ⟨d, hd, hf⟩ := hok.desc
  obtain ⟨ti, z, hi, hsz, _⟩ := hok.info
  have hagg := fits_agg hf
  have hl' : (if (tt t).d.agg then (if off = 0 ∧ glen row = (tt t).size then some (SV.a row) else (match rsub row off (tt t).size with | some r => some (.a r) | none => none))
    else (match rget row off with | some c => some (.s c) | none => none)) = some sv := by
    unfold ldRow at hl
    split at hl
    · cases hl
    · exact hl
  split at hl'
  · rename_i ha
    have load : ∀ us : List Value, us.length = (tt t).size → (∀ (j : Nat) (v : Value), us[j]? = some v → W.cell? ⟨b, o + off + j, none⟩ = some v) → ∀ W', Keeps W W' → (Instr.loadAt t (.pointer (some ⟨b, o + off, none⟩))).run P W' = .ok (.agg us.toArray) W' := fun us hlen hcell W' hW =>
      run_loadAt_mid W' b (o + off) t us d (fun j v hj => hW _ _ (hcell j v hj)) hd (hagg.trans ha) (by rw [hi]; simp [hsz, hlen])
    split at hl'
    · rename_i h0
      cases hl'
      obtain ⟨rfl, hg⟩ := h0
      exact ⟨_, load ws (by rw [hr.length, hg]) (fun j v hj => by rw [Nat.add_zero]; exact hc j v hj), ws, rfl, hr⟩
    · split at hl'
      · rename_i r hs
        cases hl'
        obtain ⟨h1, h2⟩ := hr.sub hs
        refine ⟨_, load ((ws.drop off).take (tt t).size) (by rw [List.length_take]; omega) (fun j v hj => ?_), _, rfl, h1⟩
        rw [List.getElem?_take] at hj
        split at hj
        · rw [List.getElem?_drop] at hj
          rw [show o + off + j = o + (off + j) by omega]
          exact hc _ v hj
        · cases hj
      · cases hl'
  · rename_i ha
    split at hl'
    · rename_i c hg
      cases hl'
      obtain ⟨v, hv, hk⟩ := hr.get hg
      refine ⟨v, fun W' hW => ?_, hk⟩
      have hcell := hW _ _ (hc off v hv)
      have hrow : d.isRow = false := by rw [hagg]; simpa using ha
      have hag : (isAgg t).run P W' = .ok false W' := by
        unfold isAgg
        rw [Sem.run_bind, run_underlying hd W']
        cases d <;> simp_all [TypeDesc.isRow]
      simp [Instr.loadAt, Instr.sureAddr, loadVar, Sem.run_bind, hag, load, Sem.run, hcell]
    · cases hl'

end Go.Eng
