/-
  The evaluator's cells: references to the call's own objects; what it means that they stand for the model's values. No program in sight.
-/
import Derived.Test.YtgihmigiecfmaaaEngV
namespace Go.Eng
open Go Go.RowKit
set_option linter.unusedVariables false

/-- The package variables whose data are known stand in the memory. -/
def GlobOk (m : Mem) : Prop := ∀ g row, grow g = some row → RepC m row g 0

theorem GlobOk.mono {m m' : Mem} (h : GlobOk m) (k : Mem.le m m') : GlobOk m' := fun g row e => RepC.mono k row _ _ (h g row e)

/-! ### Cells that name the call's own objects -/

/-- How many objects have been named; where each lies; each own slice's value; the blocks of the own slices within it; the memory that never turns any more. -/
structure Env where
  n : Nat
  ρ : Nat → Nat
  ov : Nat → Value
  bl : Nat → List Nat
  μ : Mem
  gok : GlobOk μ

inductive CV where
  | p (x : PV)
  | lit (k : IntKind) (n : Int)
  | bl (b : Bool)
  | nil
  | own (k : Nat)
  | ptr (k off : Nat)
  | ept (k base sz i off : Nat)
  | ipt (row : List PS) (off : Nat)
  | bsl (k off n sz : Nat)
  | psl (k base n lo : Nat)
  | clo (f : Nat) (caps : List (Nat × Nat))
  | dead
  | stl (xs : List (List PS))

inductive Seg where
  | c (x : CV)
  | r (n : Nat) (ws : List Value)

/-- A part of a tuple. -/
inductive TR where
  | s (c : CV)
  | a (row : List Seg)

inductive SV where
  | un
  | ud
  | s (c : CV)
  | a (row : List Seg)
  | t (rs : List TR)

/-- The pointers that a function value has caught. -/
def capVals (E : Env) (caps : List (Nat × Nat)) : List Value := caps.map fun c => .pointer (some ⟨E.ρ c.1, c.2, none⟩)

def RepK (E : Env) : CV → Value → Prop
  | .p x, w => RepV E.μ x w
  | .lit k n, w => w = .int k n
  | .bl b, w => w = .bool b
  | .nil, w => w = .slice none 0 0
  | .own k, w => k < E.n ∧ w = E.ov k ∧ w.oneCell' = true
  | .ptr k off, w => k < E.n ∧ w = .pointer (some ⟨E.ρ k, off, none⟩)
  | .ept k base sz i off, w => k < E.n ∧ w = .pointer (some ⟨E.ρ k, base + i * sz + off, none⟩)
  | .ipt row off, w => ∃ b o, w = .pointer (some ⟨b, o + off, none⟩) ∧ RepC E.μ row b o
  | .bsl k off n _, w => k < E.n ∧ ∃ o cap, w = .slice (some ⟨E.ρ k, o, none⟩) n cap ∧ n ≤ cap ∧ (0 < n → o = off)
  | .psl k base n lo, w => k < E.n ∧ lo ≤ n ∧ ∃ o, w = .slice (some ⟨E.ρ k, o, none⟩) (n - lo) (n - lo) ∧ (lo < n → o = base + lo)
  | .clo f caps, w => (∀ c ∈ caps, c.1 < E.n) ∧ w = .func (.func f) #[] (capVals E caps).toArray
  | .dead, w => w.oneCell' = true
  | .stl xs, w => ∃ ad cap, w = .slice ad xs.length cap

def RepG (E : Env) : List Seg → List Value → Prop
  | [], ws => ws = []
  | .c x :: ps, ws => ∃ w ws', ws = w :: ws' ∧ RepK E x w ∧ RepG E ps ws'
  | .r n us :: ps, ws => us.length = n ∧ (∀ u ∈ us, u.oneCell' = true) ∧ ∃ ws', ws = us ++ ws' ∧ RepG E ps ws'

def RepT (E : Env) : List TR → List Value → Prop
  | [], ws => ws = []
  | .s c :: l, ws => ∃ w ws', ws = w :: ws' ∧ RepK E c w ∧ RepT E l ws'
  | .a row :: l, ws => ∃ us ws', ws = Value.agg (List.toArray us) :: ws' ∧ RepG E row us ∧ RepT E l ws'

def RepS (E : Env) : SV → Value → Prop
  | .un, _ => True
  | .ud, w => w = undef
  | .s c, w => RepK E c w
  | .a row, w => ∃ ws : List Value, w = .agg ws.toArray ∧ RepG E row ws
  | .t rs, w => ∃ ws : List Value, w = .tuple ws.toArray ∧ RepT E rs ws

def RepF (E : Env) : List SV → List Value → Prop
  | [], ws => ws = []
  | p :: ps, ws => ∃ w ws', ws = w :: ws' ∧ RepS E p w ∧ RepF E ps ws'

/-- E' knows all that E knows, but for the object k. -/
structure Env.leBut (k : Nat) (E E' : Env) : Prop where
  n : E.n ≤ E'.n
  ρ : ∀ j, j < E.n → j ≠ k → E'.ρ j = E.ρ j
  ov : ∀ j, j < E.n → j ≠ k → E'.ov j = E.ov j
  μ : Mem.le E.μ E'.μ

/-- E' knows all that E knows. -/
structure Env.le (E E' : Env) : Prop where
  n : E.n ≤ E'.n
  ρ : ∀ k, k < E.n → E'.ρ k = E.ρ k
  ov : ∀ k, k < E.n → E'.ov k = E.ov k
  μ : Mem.le E.μ E'.μ

theorem Env.le_refl (E : Env) : E.le E := ⟨Nat.le_refl _, fun _ _ => rfl, fun _ _ => rfl, Mem.le_refl _⟩
theorem Env.le_trans {a b c : Env} (h : a.le b) (k : b.le c) : a.le c :=
  ⟨Nat.le_trans h.n k.n, fun i hi => (k.ρ i (Nat.lt_of_lt_of_le hi h.n)).trans (h.ρ i hi), fun i hi => (k.ov i (Nat.lt_of_lt_of_le hi h.n)).trans (h.ov i hi), Mem.le_trans h.μ k.μ⟩
theorem Env.le.but {E E' : Env} (h : E.le E') (k : Nat) : E.leBut k E' := ⟨h.n, fun j hj _ => h.ρ j hj, fun j hj _ => h.ov j hj, h.μ⟩

theorem capVals_same {E E' : Env} {caps : List (Nat × Nat)} (h : ∀ c ∈ caps, E'.ρ c.1 = E.ρ c.1) : capVals E' caps = capVals E caps :=
  List.map_congr_left fun c hc => by rw [h c hc]

theorem RepK.mono {E E' : Env} (h : E.le E') : ∀ {c : CV} {w : Value}, RepK E c w → RepK E' c w
  | .p x, w, r => RepV.mono h.μ x w r
  | .lit _ _, w, r => r
  | .bl _, w, r => r
  | .nil, w, r => r
  | .own k, w, ⟨hk, e, o⟩ => ⟨Nat.lt_of_lt_of_le hk h.n, e.trans (h.ov k hk).symm, o⟩
  | .ptr k off, w, ⟨hk, e⟩ => ⟨Nat.lt_of_lt_of_le hk h.n, by rw [h.ρ k hk]; exact e⟩
  | .ept k _ _ _ _, w, ⟨hk, e⟩ => ⟨Nat.lt_of_lt_of_le hk h.n, by rw [h.ρ k hk]; exact e⟩
  | .ipt cs off, w, ⟨b, o, e, r⟩ => ⟨b, o, e, RepC.mono h.μ cs _ _ r⟩
  | .bsl k off n sz, w, ⟨hk, o, cap, e, hc, ho⟩ => ⟨Nat.lt_of_lt_of_le hk h.n, o, cap, by rw [h.ρ k hk]; exact e, hc, ho⟩
  | .psl k base n lo, w, ⟨hk, hl, o, e, ho⟩ => ⟨Nat.lt_of_lt_of_le hk h.n, hl, o, by rw [h.ρ k hk]; exact e, ho⟩
  | .clo f caps, w, ⟨hk, e⟩ => ⟨fun c hc => Nat.lt_of_lt_of_le (hk c hc) h.n, by rw [capVals_same fun c hc => h.ρ c.1 (hk c hc)]; exact e⟩
  | .dead, w, r => r
  | .stl _, w, r => r

theorem RepG.mono {E E' : Env} (h : E.le E') : ∀ {cs : List Seg} {ws : List Value}, RepG E cs ws → RepG E' cs ws
  | [], _, r => r
  | .c _ :: _, _, ⟨w, ws', e, hv, hr⟩ => ⟨w, ws', e, hv.mono h, RepG.mono h hr⟩
  | .r _ _ :: _, _, ⟨hl, ho, ws', e, hr⟩ => ⟨hl, ho, ws', e, RepG.mono h hr⟩

theorem RepT.mono {E E' : Env} (h : E.le E') : ∀ {cs : List TR} {ws : List Value}, RepT E cs ws → RepT E' cs ws
  | [], _, r => r
  | .s _ :: _, _, ⟨w, ws', e, hv, hr⟩ => ⟨w, ws', e, hv.mono h, RepT.mono h hr⟩
  | .a _ :: _, _, ⟨us, ws', e, hv, hr⟩ => ⟨us, ws', e, hv.mono h, RepT.mono h hr⟩

theorem RepS.mono {E E' : Env} (h : E.le E') : ∀ {c : SV} {w : Value}, RepS E c w → RepS E' c w
  | .un, _, _ => trivial
  | .ud, _, r => r
  | .s _, _, r => RepK.mono h r
  | .a _, _, ⟨ws, e, r⟩ => ⟨ws, e, r.mono h⟩
  | .t rs, _, ⟨ws, e, r⟩ => ⟨ws, e, r.mono h⟩

theorem RepF.mono {E E' : Env} (h : E.le E') : ∀ {cs : List SV} {ws : List Value}, RepF E cs ws → RepF E' cs ws
  | [], _, r => r
  | _ :: _, _, ⟨w, ws', e, hv, hr⟩ => ⟨w, ws', e, hv.mono h, RepF.mono h hr⟩

theorem RepK.oneCell {E : Env} : ∀ {c : CV} {w : Value}, RepK E c w → w.oneCell' = true
  | .p _, _, r => RepV.oneCell r
  | .lit _ _, _, r => by rw [show _ = _ from r]; rfl
  | .bl _, _, r => by rw [show _ = _ from r]; rfl
  | .nil, _, r => by rw [show _ = _ from r]; rfl
  | .own _, _, ⟨_, _, o⟩ => o
  | .ptr _ _, _, ⟨_, e⟩ => by rw [e]; rfl
  | .ept _ _ _ _ _, _, ⟨_, e⟩ => by rw [e]; rfl
  | .ipt _ _, _, ⟨_, _, e, _⟩ => by rw [e]; rfl
  | .bsl _ _ _ _, _, ⟨_, _, _, e, _⟩ => by rw [e]; rfl
  | .psl _ _ _ _, _, ⟨_, _, _, e, _⟩ => by rw [e]; rfl
  | .clo _ _, _, ⟨_, e⟩ => by rw [e]; rfl
  | .dead, _, r => r
  | .stl _, _, ⟨_, _, e⟩ => by rw [e]; rfl

theorem RepG.all_oneCell {E : Env} : ∀ {xs : List Seg} {ws : List Value}, RepG E xs ws → ∀ w ∈ ws, w.oneCell' = true
  | [], _, r, w, h => by rw [show _ = [] from r] at h; cases h
  | .c _ :: _, _, ⟨u, ws', e, hv, hr⟩, w, h => by
    subst e
    rcases List.mem_cons.1 h with rfl | h
    · exact hv.oneCell
    · exact RepG.all_oneCell hr w h
  | .r _ _ :: _, _, ⟨_, ho, ws', e, hr⟩, w, h => by
    subst e
    rcases List.mem_append.1 h with h | h
    · exact ho w h
    · exact RepG.all_oneCell hr w h

theorem RepG.append {E : Env} : ∀ {xs ys : List Seg} {ws vs : List Value}, RepG E xs ws → RepG E ys vs → RepG E (xs ++ ys) (ws ++ vs)
  | [], _, _, _, h, k => by rw [show _ = [] from h]; exact k
  | .c _ :: _, _, _, _, ⟨w, ws', e, hv, hr⟩, k => by subst e; exact ⟨w, _, rfl, hv, hr.append k⟩
  | .r _ _ :: _, _, _, _, ⟨hl, ho, ws', e, hr⟩, k => by subst e; exact ⟨hl, ho, _, by simp, hr.append k⟩

def PS.seg : PS → Seg
  | .c x => .c (.p x)
  | .r n ws => .r n ws

def segs : List PS → List Seg
  | [] => []
  | p :: ps => p.seg :: segs ps

theorem RepG.of_pure {E : Env} : ∀ {xs : List PS} {ws : List Value}, RepL E.μ xs ws → RepG E (segs xs) ws
  | [], _, r => r
  | .c _ :: _, _, ⟨w, ws', e, hv, hr⟩ => ⟨w, ws', e, hv, RepG.of_pure hr⟩
  | .r _ _ :: _, _, ⟨hl, ho, ws', e, hr⟩ => ⟨hl, ho, ws', e, RepG.of_pure hr⟩

theorem RepF.get {E : Env} : ∀ {xs : List SV} {ws : List Value} (_ : RepF E xs ws) (i : Nat) (x : SV), xs[i]? = some x → ∃ w, ws[i]? = some w ∧ RepS E x w
  | [], _, _, i, x, h => by simp at h
  | p :: ps, _, ⟨w, ws', e, hv, hr⟩, i, x, h => by
    subst e
    cases i with
    | zero => simp at h; subst h; exact ⟨w, by simp, hv⟩
    | succ i => simp at h; simpa using RepF.get hr i x h

theorem RepF.length {E : Env} : ∀ {xs : List SV} {ws : List Value}, RepF E xs ws → ws.length = xs.length
  | [], _, r => by rw [show _ = [] from r]; rfl
  | p :: ps, _, ⟨w, ws', e, _, hr⟩ => by rw [e]; simp [RepF.length hr]

theorem RepF.set {E : Env} : ∀ {xs : List SV} {ws : List Value} (_ : RepF E xs ws) (i : Nat) (x : SV) (w : Value), RepS E x w → RepF E (xs.set i x) (ws.set i w)
  | [], _, r, i, x, w, _ => by rw [show _ = [] from r]; simp [RepF]
  | p :: ps, _, ⟨u, ws', e, hv, hr⟩, i, x, w, h => by
    subst e
    cases i with
    | zero => exact ⟨w, ws', rfl, h, hr⟩
    | succ i => exact ⟨u, _, rfl, hv, RepF.set hr i x w h⟩

/-! ### A value whose object has turned: every other sight of it is forgotten -/
def CV.sweep (k : Nat) : CV → CV
  | .own j => if j = k then .dead else .own j
  | .ptr j o => if j = k then .dead else .ptr j o
  | .ept j b sz i o => if j = k then .dead else .ept j b sz i o
  | .bsl j o n sz => if j = k then .dead else .bsl j o n sz
  | .psl j b n lo => if j = k then .dead else .psl j b n lo
  | .clo f caps => if (caps.any fun c => c.1 == k) = true then .dead else .clo f caps
  | c => c

def Seg.sweep (k : Nat) : Seg → Seg
  | .c x => .c (x.sweep k)
  | s => s

def sweeps (k : Nat) : List Seg → List Seg
  | [] => []
  | s :: l => s.sweep k :: sweeps k l

def sweepT (k : Nat) : List TR → List TR
  | [] => []
  | .s c :: l => .s (c.sweep k) :: sweepT k l
  | .a row :: l => .a (sweeps k row) :: sweepT k l

def SV.sweep (k : Nat) : SV → SV
  | .s c => .s (c.sweep k)
  | .a row => .a (sweeps k row)
  | .t rs => .t (sweepT k rs)
  | x => x

def sweepF (k : Nat) : List SV → List SV
  | [] => []
  | s :: l => s.sweep k :: sweepF k l

theorem RepK.sweep {k : Nat} {E E' : Env} (h : E.leBut k E') : ∀ {c : CV} {w : Value}, RepK E c w → RepK E' (c.sweep k) w
  | .p x, w, r => RepV.mono h.μ x w r
  | .lit _ _, w, r => r
  | .bl _, w, r => r
  | .nil, w, r => r
  | .own j, w, r => by
    simp only [CV.sweep]; split
    · exact r.2.2
    · rename_i hne; exact ⟨Nat.lt_of_lt_of_le r.1 h.n, r.2.1.trans (h.ov j r.1 hne).symm, r.2.2⟩
  | .ptr j off, w, r => by
    simp only [CV.sweep]; split
    · exact RepK.oneCell (c := .ptr j off) r
    · rename_i hne; exact ⟨Nat.lt_of_lt_of_le r.1 h.n, by rw [h.ρ j r.1 hne]; exact r.2⟩
  | .ept j b sz i off, w, r => by
    simp only [CV.sweep]; split
    · exact RepK.oneCell (c := .ept j b sz i off) r
    · rename_i hne; exact ⟨Nat.lt_of_lt_of_le r.1 h.n, by rw [h.ρ j r.1 hne]; exact r.2⟩
  | .ipt cs off, w, ⟨b, o, e, r⟩ => ⟨b, o, e, RepC.mono h.μ cs _ _ r⟩
  | .bsl j off n sz, w, r => by
    simp only [CV.sweep]; split
    · exact RepK.oneCell (c := .bsl j off n sz) r
    · rename_i hne
      obtain ⟨hk, o, cap, e, hc, ho⟩ := r
      exact ⟨Nat.lt_of_lt_of_le hk h.n, o, cap, by rw [h.ρ j hk hne]; exact e, hc, ho⟩
  | .psl j b n lo, w, r => by
    simp only [CV.sweep]; split
    · exact RepK.oneCell (c := .psl j b n lo) r
    · rename_i hne
      obtain ⟨hk, hl, o, e, ho⟩ := r
      exact ⟨Nat.lt_of_lt_of_le hk h.n, hl, o, by rw [h.ρ j hk hne]; exact e, ho⟩
  | .clo f caps, w, r => by
    simp only [CV.sweep]; split
    · exact RepK.oneCell (c := .clo f caps) r
    · rename_i hne
      obtain ⟨hk, e⟩ := r
      refine ⟨fun c hc => Nat.lt_of_lt_of_le (hk c hc) h.n, ?_⟩
      rw [capVals_same fun c hc => h.ρ c.1 (hk c hc) fun e' => hne (List.any_eq_true.2 ⟨c, hc, by simp [e']⟩)]
      exact e
  | .dead, w, r => r
  | .stl _, w, r => r

theorem RepG.sweep {k : Nat} {E E' : Env} (h : E.leBut k E') : ∀ {cs : List Seg} {ws : List Value}, RepG E cs ws → RepG E' (sweeps k cs) ws
  | [], _, r => r
  | .c _ :: _, _, ⟨w, ws', e, hv, hr⟩ => ⟨w, ws', e, hv.sweep h, RepG.sweep h hr⟩
  | .r _ _ :: _, _, ⟨hl, ho, ws', e, hr⟩ => ⟨hl, ho, ws', e, RepG.sweep h hr⟩

theorem RepT.sweep {k : Nat} {E E' : Env} (h : E.leBut k E') : ∀ {cs : List TR} {ws : List Value}, RepT E cs ws → RepT E' (sweepT k cs) ws
  | [], _, r => r
  | .s _ :: _, _, ⟨w, ws', e, hv, hr⟩ => ⟨w, ws', e, hv.sweep h, RepT.sweep h hr⟩
  | .a _ :: _, _, ⟨us, ws', e, hv, hr⟩ => ⟨us, ws', e, hv.sweep h, RepT.sweep h hr⟩

theorem RepS.sweep {k : Nat} {E E' : Env} (h : E.leBut k E') : ∀ {c : SV} {w : Value}, RepS E c w → RepS E' (c.sweep k) w
  | .un, _, _ => trivial
  | .ud, _, r => r
  | .s _, _, r => RepK.sweep h r
  | .a _, _, ⟨ws, e, r⟩ => ⟨ws, e, r.sweep h⟩
  | .t rs, _, ⟨ws, e, r⟩ => ⟨ws, e, r.sweep h⟩

theorem RepF.sweep {k : Nat} {E E' : Env} (h : E.leBut k E') : ∀ {cs : List SV} {ws : List Value}, RepF E cs ws → RepF E' (sweepF k cs) ws
  | [], _, r => r
  | _ :: _, _, ⟨w, ws', e, hv, hr⟩ => ⟨w, ws', e, hv.sweep h, RepF.sweep h hr⟩

/-! ### The same; of the old slice its length is remembered -/
def CV.sweepA (k : Nat) (xs : List (List PS)) : CV → CV
  | .own j => if j = k then .stl xs else .own j
  | c => c.sweep k

def Seg.sweepA (k : Nat) (xs : List (List PS)) : Seg → Seg
  | .c x => .c (x.sweepA k xs)
  | s => s

def sweepsA (k : Nat) (xs : List (List PS)) : List Seg → List Seg
  | [] => []
  | s :: l => s.sweepA k xs :: sweepsA k xs l

def SV.sweepA (k : Nat) (xs : List (List PS)) : SV → SV
  | .s c => .s (c.sweepA k xs)
  | .a row => .a (sweepsA k xs row)
  | .t rs => .t (sweepT k rs)
  | x => x

def sweepFA (k : Nat) (xs : List (List PS)) : List SV → List SV
  | [] => []
  | s :: l => s.sweepA k xs :: sweepFA k xs l

theorem RepK.sweepA {k : Nat} {xs : List (List PS)} {E E' : Env} (h : E.leBut k E') (hx : ∃ ad cap, E.ov k = .slice ad xs.length cap) : ∀ {c : CV} {w : Value}, RepK E c w → RepK E' (c.sweepA k xs) w := fun {c w} r => by
  cases c with
  | own j =>
    simp only [CV.sweepA]; split
    · rename_i e; subst e; obtain ⟨ad, cap, e⟩ := hx; exact ⟨ad, cap, r.2.1.trans e⟩
    · rename_i hne; exact ⟨Nat.lt_of_lt_of_le r.1 h.n, r.2.1.trans (h.ov j r.1 hne).symm, r.2.2⟩
  | _ => exact RepK.sweep h r

theorem RepG.sweepA {k : Nat} {xs : List (List PS)} {E E' : Env} (h : E.leBut k E') (hx : ∃ ad cap, E.ov k = .slice ad xs.length cap) : ∀ {cs : List Seg} {ws : List Value}, RepG E cs ws → RepG E' (sweepsA k xs cs) ws
  | [], _, r => r
  | .c _ :: _, _, ⟨w, ws', e, hv, hr⟩ => ⟨w, ws', e, hv.sweepA h hx, RepG.sweepA h hx hr⟩
  | .r _ _ :: _, _, ⟨hl, ho, ws', e, hr⟩ => ⟨hl, ho, ws', e, RepG.sweepA h hx hr⟩

theorem RepS.sweepA {k : Nat} {xs : List (List PS)} {E E' : Env} (h : E.leBut k E') (hx : ∃ ad cap, E.ov k = .slice ad xs.length cap) : ∀ {c : SV} {w : Value}, RepS E c w → RepS E' (c.sweepA k xs) w
  | .un, _, _ => trivial
  | .ud, _, r => r
  | .s _, _, r => RepK.sweepA h hx r
  | .a _, _, ⟨ws, e, r⟩ => ⟨ws, e, r.sweepA h hx⟩
  | .t rs, _, ⟨ws, e, r⟩ => ⟨ws, e, r.sweep h⟩

theorem RepF.sweepA {k : Nat} {xs : List (List PS)} {E E' : Env} (h : E.leBut k E') (hx : ∃ ad cap, E.ov k = .slice ad xs.length cap) : ∀ {cs : List SV} {ws : List Value}, RepF E cs ws → RepF E' (sweepFA k xs cs) ws
  | [], _, r => r
  | _ :: _, _, ⟨w, ws', e, hv, hr⟩ => ⟨w, ws', e, hv.sweepA h hx, RepF.sweepA h hx hr⟩

/-! ### Pieces of a row -/
def rget : List Seg → Nat → Option CV
  | [], _ => none
  | .c x :: rest, off => if off = 0 then some x else rget rest (off - 1)
  | .r n ws :: rest, off => if off < n then (match ws[off]? with | some w => some (.p (.v w)) | none => none) else rget rest (off - n)

theorem RepG.get {E : Env} : ∀ {row : List Seg} {ws : List Value} {off : Nat} {c : CV}, RepG E row ws → rget row off = some c → ∃ w, ws[off]? = some w ∧ RepK E c w
  | [], _, _, _, _, h => by cases h
  | .c x :: rest, _, off, c, ⟨w, ws', e, hv, hr⟩, h => by
    subst e
    simp only [rget] at h
    split at h
    · rename_i h0; subst h0; cases h; exact ⟨w, by simp, hv⟩
    · rename_i h0
      obtain ⟨u, hu, hk⟩ := RepG.get hr h
      refine ⟨u, ?_, hk⟩
      rw [show off = off - 1 + 1 by omega, List.getElem?_cons_succ]; exact hu
  | .r n us :: rest, _, off, c, ⟨hl, ho, ws', e, hr⟩, h => by
    subst e
    simp only [rget] at h
    split at h
    · rename_i hlt
      split at h
      · rename_i w hw
        cases h
        refine ⟨w, by rw [List.getElem?_append_left (by omega)]; exact hw, ?_⟩
        exact ⟨rfl, ho w (List.mem_of_getElem? hw)⟩
      · cases h
    · rename_i hge
      obtain ⟨u, hu, hk⟩ := RepG.get hr h
      exact ⟨u, by rw [List.getElem?_append_right (by omega), hl]; exact hu, hk⟩

def rtake : List Seg → Nat → Option (List Seg)
  | _, 0 => some []
  | [], _ + 1 => none
  | .c x :: rest, n + 1 => (rtake rest n).map (.c x :: ·)
  | .r m ws :: rest, n + 1 => if m ≤ n + 1 then (rtake rest (n + 1 - m)).map (.r m ws :: ·) else some [.r (n + 1) (ws.take (n + 1))]

def rdrop : List Seg → Nat → Option (List Seg)
  | row, 0 => some row
  | [], _ + 1 => none
  | .c _ :: rest, n + 1 => rdrop rest n
  | .r m ws :: rest, n + 1 => if m ≤ n + 1 then rdrop rest (n + 1 - m) else some (.r (m - (n + 1)) (ws.drop (n + 1)) :: rest)

theorem RepG.take {E : Env} : ∀ {row row' : List Seg} {ws : List Value} {n : Nat}, RepG E row ws → rtake row n = some row' → RepG E row' (ws.take n) ∧ n ≤ ws.length
  | row, _, ws, 0, _, h => by simp only [rtake, Option.some.injEq] at h; subst h; simp [RepG]
  | [], _, _, n + 1, _, h => by cases h
  | .c x :: rest, _, _, n + 1, ⟨w, ws', e, hv, hr⟩, h => by
    subst e
    simp only [rtake, Option.map_eq_some_iff] at h
    obtain ⟨l, hl, rfl⟩ := h
    have := RepG.take hr hl
    exact ⟨⟨w, _, rfl, hv, this.1⟩, by simpa using this.2⟩
  | .r m us :: rest, _, _, n + 1, ⟨hl, ho, ws', e, hr⟩, h => by
    subst e
    simp only [rtake] at h
    split at h
    · rename_i hle
      simp only [Option.map_eq_some_iff] at h
      obtain ⟨l, hl', rfl⟩ := h
      have := RepG.take hr hl'
      refine ⟨⟨hl, ho, _, ?_, this.1⟩, by simp; omega⟩
      rw [List.take_append, List.take_of_length_le (by omega), hl]
    · rename_i hgt
      cases h
      refine ⟨⟨by simp; omega, fun u hu => ho u (List.mem_of_mem_take hu), [], ?_, rfl⟩, by simp; omega⟩
      rw [List.take_append_of_le_length (by omega), List.append_nil]

theorem RepG.drop {E : Env} : ∀ {row row' : List Seg} {ws : List Value} {n : Nat}, RepG E row ws → rdrop row n = some row' → RepG E row' (ws.drop n)
  | row, _, ws, 0, r, h => by simp only [rdrop, Option.some.injEq] at h; subst h; simpa using r
  | [], _, _, n + 1, _, h => by cases h
  | .c x :: rest, _, _, n + 1, ⟨w, ws', e, hv, hr⟩, h => by
    subst e
    simp only [rdrop] at h
    simpa using RepG.drop hr h
  | .r m us :: rest, _, _, n + 1, ⟨hl, ho, ws', e, hr⟩, h => by
    subst e
    simp only [rdrop] at h
    split at h
    · rename_i hle
      have := RepG.drop hr h
      rw [List.drop_append, List.drop_of_length_le (by omega), List.nil_append, hl]
      exact this
    · rename_i hgt
      cases h
      refine ⟨by simp; omega, fun u hu => ho u (List.mem_of_mem_drop hu), ws', ?_, hr⟩
      rw [List.drop_append_of_le_length (by omega)]

/-- n cells from off on. -/
def rsub (row : List Seg) (off n : Nat) : Option (List Seg) := (rdrop row off).bind (rtake · n)

theorem RepG.sub {E : Env} {row row' : List Seg} {ws : List Value} {off n : Nat} (h : RepG E row ws) (hs : rsub row off n = some row') : RepG E row' ((ws.drop off).take n) ∧ n ≤ (ws.drop off).length := by
  simp only [rsub, Option.bind_eq_some_iff] at hs
  obtain ⟨l, h1, h2⟩ := hs
  exact (h.drop h1).take h2

/-- One plain cell put, inside a piece of plain cells too. -/
def rput : List Seg → Nat → CV → Option (List Seg)
  | [], _, _ => none
  | .c x :: rest, off, c => if off = 0 then some (.c c :: rest) else (rput rest (off - 1) c).map (.c x :: ·)
  | .r n ws :: rest, off, c =>
    if off < n then (match c with | .p (.v w) => some (.r n (ws.set off w) :: rest) | .lit k m => some (.r n (ws.set off (.int k m)) :: rest) | .bl b => some (.r n (ws.set off (.bool b)) :: rest) | _ => none)
    else (rput rest (off - n) c).map (.r n ws :: ·)

theorem RepG.put {E : Env} : ∀ {row row' : List Seg} {ws : List Value} {off : Nat} {c : CV} {w : Value}, RepG E row ws → rput row off c = some row' → RepK E c w → RepG E row' (ws.set off w) ∧ off < ws.length
  | [], _, _, _, _, _, _, h, _ => by cases h
  | .c x :: rest, _, _, off, c, w, ⟨u, ws', e, hv, hr⟩, h, hk => by
    subst e
    simp only [rput] at h
    split at h
    · rename_i h0; subst h0; cases h; exact ⟨⟨w, ws', rfl, hk, hr⟩, by simp⟩
    · rename_i h0
      simp only [Option.map_eq_some_iff] at h
      obtain ⟨l, hl, rfl⟩ := h
      have := RepG.put hr hl hk
      obtain ⟨o, rfl⟩ : ∃ o, off = o + 1 := ⟨off - 1, by omega⟩
      simp only [Nat.add_sub_cancel] at this
      exact ⟨⟨u, _, by simp, hv, this.1⟩, by simpa using this.2⟩
  | .r n us :: rest, _, _, off, c, w, ⟨hl, ho, ws', e, hr⟩, h, hk => by
    subst e
    simp only [rput] at h
    split at h
    · rename_i hlt
      have fin : ∀ x : Value, w = x → x.oneCell' = true → RepG E (.r n (us.set off x) :: rest) ((us ++ ws').set off w) ∧ off < (us ++ ws').length := fun x e1 hx => by
        subst e1
        refine ⟨⟨by simp [hl], fun u hu => ?_, ws', by rw [List.set_append_left _ _ (by omega)], hr⟩, by simp; omega⟩
        rcases List.mem_or_eq_of_mem_set hu with h | rfl
        · exact ho u h
        · exact hx
      split at h
      · rename_i x
        cases h
        exact fin x hk.1 hk.2
      · cases h; exact fin _ hk rfl
      · cases h; exact fin _ hk rfl
      · cases h
    · rename_i hge
      simp only [Option.map_eq_some_iff] at h
      obtain ⟨l, hl', rfl⟩ := h
      have := RepG.put hr hl' hk
      refine ⟨⟨hl, ho, _, ?_, this.1⟩, by simp; omega⟩
      rw [List.set_append_right _ _ (by omega), hl]

/-- A row put at off, as long as it is. -/
def rputs (row new : List Seg) (off n : Nat) : Option (List Seg) :=
  (rtake row off).bind fun l => (rdrop row (off + n)).map fun r => l ++ new ++ r

theorem RepG.puts {E : Env} {row new row' : List Seg} {ws us : List Value} {off : Nat} (h : RepG E row ws) (k : RepG E new us) (hs : rputs row new off us.length = some row') :
    RepG E row' (ws.take off ++ us ++ ws.drop (off + us.length)) := by
  simp only [rputs, Option.bind_eq_some_iff, Option.map_eq_some_iff] at hs
  obtain ⟨l, h1, r, h2, rfl⟩ := hs
  exact ((h.take h1).1.append k).append (h.drop h2)

def Seg.len : Seg → Nat
  | .c _ => 1
  | .r n _ => n
def glen : List Seg → Nat
  | [] => 0
  | p :: ps => p.len + glen ps

theorem RepG.length {E : Env} : ∀ {xs : List Seg} {ws : List Value}, RepG E xs ws → ws.length = glen xs
  | [], _, r => by rw [show _ = [] from r]; rfl
  | .c x :: ps, _, ⟨w, ws', e, _, hr⟩ => by rw [e]; simp [RepG.length hr, glen, Seg.len]; omega
  | .r n us :: ps, _, ⟨hl, _, ws', e, hr⟩ => by rw [e]; simp [RepG.length hr, glen, Seg.len, hl]

end Go.Eng
