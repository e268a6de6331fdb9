/-
  A state that says less.
-/
import Derived.Test.YtgihmigiecfmaaaEngI
namespace Go.Eng
open Go Go.RowKit

/-! ### A state that says less -/
def CV.below (n : Nat) : CV → Prop
  | .own k => k < n
  | .ptr k _ => k < n
  | .ept k _ _ _ _ => k < n
  | .bsl k _ _ _ => k < n
  | .psl k _ _ _ => k < n
  | .clo _ caps => (caps.all fun c => decide (c.1 < n)) = true
  | _ => True

def belowG (n : Nat) : List Seg → Prop
  | [] => True
  | .c x :: l => x.below n ∧ belowG n l
  | .r _ _ :: l => belowG n l

def belowT (n : Nat) : List TR → Prop
  | [] => True
  | .s c :: l => c.below n ∧ belowT n l
  | .a r :: l => belowG n r ∧ belowT n l

def SV.below (n : Nat) : SV → Prop
  | .s c => c.below n
  | .a row => belowG n row
  | .t rs => belowT n rs
  | _ => True

/-- a says all that b says. -/
def subC : CV → CV → Prop
  | .lit k n, .p (.v x) => x = .int k n
  | .bl b, .p (.v x) => x = .bool b
  | .nil, .p (.sl xs s) => xs = [] ∧ s = []
  | a, b => a = b

def subG : List Seg → List Seg → Prop
  | [], [] => True
  | .c a :: l, .c b :: m => subC a b ∧ subG l m
  | .r n us :: l, .r n' vs :: m => n = n' ∧ us = vs ∧ subG l m
  | _, _ => False

def subS : SV → SV → Prop
  | _, .un => True
  | .s a, .s b => subC a b
  | .a r, .a r' => subG r r'
  | .t rs, .t rs' => rs = rs'
  | _, _ => False

def fitsF (n : Nat) : List SV → List SV → Prop
  | [], [] => True
  | a :: as, b :: bs => subS a b ∧ b.below n ∧ fitsF n as bs
  | _, _ => False

def subO (n : Nat) : Ob → Ob → Prop
  | _, .gone => True
  | .box r, .box r' => subG r r' ∧ belowG n r'
  | .fbox r, .fbox r' => r = r'
  | .arr xs e sz by_ wr, .arr xs' e' sz' by' wr' => xs = xs' ∧ e = e' ∧ sz = sz' ∧ by_ = by' ∧ wr = wr'
  | .nest xs e sz by_ _, .nest xs' e' sz' by' t' => xs = xs' ∧ e = e' ∧ sz = sz' ∧ by_ = by' ∧ t' = none
  | .tre xs s e sz by_ _, .tre xs' s' e' sz' by' t' => xs = xs' ∧ s = s' ∧ e = e' ∧ sz = sz' ∧ by_ = by' ∧ t' = none
  | .hid a vs, .hid b vs' => vs = vs' ∧ fitsF n a b
  | .wld H, .wld H' => H = H'
  | _, _ => False

def fitsO (n : Nat) : List Ob → List Ob → Prop
  | _, [] => True
  | a :: as, b :: bs => subO n a b ∧ fitsO n as bs
  | [], _ :: _ => False

def fits (st st' : St) : Prop := fitsF st'.ob.length st.fr st'.fr ∧ fitsO st'.ob.length st.ob st'.ob

theorem subC_spec {E : Env} {a b : CV} {w : Value} (h : subC a b) (hr : RepK E a w) : RepK E b w := by
  unfold subC at h
  split at h
  · rw [h]; exact ⟨hr, rfl⟩
  · rw [h]; exact ⟨hr, rfl⟩
  · obtain ⟨rfl, rfl⟩ := h
    rw [show w = _ from hr]
    exact RepV.nil _
  · rw [← h]; exact hr

theorem subG_spec {E : Env} : ∀ {r r' : List Seg} {ws : List Value}, subG r r' → RepG E r ws → RepG E r' ws
  | [], [], _, _, hr => hr
  | .c a :: l, .c b :: m, _, h, ⟨w, ws', e, hv, hr⟩ => ⟨w, ws', e, subC_spec h.1 hv, subG_spec h.2 hr⟩
  | .r n us :: l, .r n' vs :: m, _, ⟨h1, h2, h3⟩, ⟨hl, ho, ws', e, hr⟩ => by subst h1; subst h2; exact ⟨hl, ho, ws', e, subG_spec h3 hr⟩
  | [], _ :: _, _, h, _ => by cases h
  | .c _ :: _, [], _, h, _ => by cases h
  | .r _ _ :: _, [], _, h, _ => by cases h
  | .c _ :: _, .r _ _ :: _, _, h, _ => by cases h
  | .r _ _ :: _, .c _ :: _, _, h, _ => by cases h

theorem below_spec {E : Env} {n : Nat} {c : CV} {w : Value} (h : c.below n) (hr : RepK E c w) : RepK { E with n := n } c w := by
  cases c with
  | own k => exact ⟨h, hr.2⟩
  | ptr k o => exact ⟨h, hr.2⟩
  | ept k b sz i o => exact ⟨h, hr.2⟩
  | bsl k o m sz => exact ⟨h, hr.2⟩
  | psl k b m l => exact ⟨h, hr.2⟩
  | clo f caps => exact ⟨fun c hc => by have := List.all_eq_true.1 h c hc; simpa using this, hr.2⟩
  | _ => exact hr

theorem belowG_spec {E : Env} {n : Nat} : ∀ {r : List Seg} {ws : List Value}, belowG n r → RepG E r ws → RepG { E with n := n } r ws
  | [], _, _, hr => hr
  | .c _ :: _, _, h, ⟨w, ws', e, hv, hr⟩ => ⟨w, ws', e, below_spec h.1 hv, belowG_spec h.2 hr⟩
  | .r _ _ :: _, _, h, ⟨hl, ho, ws', e, hr⟩ => ⟨hl, ho, ws', e, belowG_spec h hr⟩

theorem belowT_spec {E : Env} {n : Nat} : ∀ {r : List TR} {ws : List Value}, belowT n r → RepT E r ws → RepT { E with n := n } r ws
  | [], _, _, hr => hr
  | .s _ :: _, _, h, ⟨w, ws', e, hv, hr⟩ => ⟨w, ws', e, below_spec h.1 hv, belowT_spec h.2 hr⟩
  | .a _ :: _, _, h, ⟨us, ws', e, hv, hr⟩ => ⟨us, ws', e, belowG_spec h.1 hv, belowT_spec h.2 hr⟩

theorem subS_spec {E : Env} {n : Nat} {a b : SV} {w : Value} (h : subS a b) (hb : b.below n) (hr : RepS E a w) : RepS { E with n := n } b w := by
  unfold subS at h
  split at h
  · trivial
  · exact below_spec hb (subC_spec h hr)
  · obtain ⟨ws, e, hg⟩ := hr; exact ⟨ws, e, belowG_spec hb (subG_spec h hg)⟩
  · subst h; obtain ⟨ws, e, hg⟩ := hr; exact ⟨ws, e, belowT_spec hb hg⟩
  · exact h.elim

theorem fitsF_spec {E : Env} {n : Nat} : ∀ {as bs : List SV} {ws : List Value}, fitsF n as bs → RepF E as ws → RepF { E with n := n } bs ws
  | [], [], _, _, hr => hr
  | a :: as, b :: bs, _, ⟨h1, h2, h3⟩, ⟨w, ws', e, hv, hr⟩ => ⟨w, ws', e, subS_spec h1 h2 hv, fitsF_spec h3 hr⟩
  | [], _ :: _, _, h, _ => by cases h
  | _ :: _, [], _, h, _ => by cases h

theorem fitsO_get {n : Nat} : ∀ {as bs : List Ob}, fitsO n as bs → ∀ (k : Nat) (b : Ob), bs[k]? = some b → ∃ a, as[k]? = some a ∧ subO n a b
  | _, [], _, k, b, h => by simp at h
  | a :: as, c :: bs, ⟨h1, h2⟩, 0, b, h => by simp at h; subst h; exact ⟨a, by simp, h1⟩
  | a :: as, c :: bs, ⟨h1, h2⟩, k + 1, b, h => by simpa using fitsO_get h2 k b (by simpa using h)
  | [], _ :: _, h, _, _, _ => by cases h

theorem subO_Wb {E : Env} {n k g m : Nat} {a b : Ob} (h : subO n a b) (hw : Wb { E with n := m } k b g) : Wb E k a g := by
  unfold subO at h
  split at h
  · cases hw
  · exact hw
  · cases hw
  · exact hw
  · exact hw
  · exact hw
  · cases hw
  · subst h; exact hw
  · exact h.elim

theorem Sim.fits {B : Nat} {W0 : World} {m0 : Mem} {E : Env} {st st' : St} {a : Act} {W : World} (h : Sim B W0 m0 E st a W) (hf : fits st st') : Sim B W0 m0 { E with n := st'.ob.length } st' a W := by
  refine ⟨⟨h.inv.size, rfl, h.inv.mu, fun k o hk => ?_, fun i j oi oj g hij hi hj hwi hwj => ?_⟩, fitsF_spec hf.1 h.fr, h.below, h.grew, h.had, h.defers⟩
  · obtain ⟨o', ho', hs⟩ := fitsO_get hf.2 k o hk
    have hO := h.inv.obs k o' ho'
    unfold subO at hs
    split at hs
    · trivial
    · obtain ⟨h1, ⟨t, ws, h2, h3⟩, h4⟩ := hO
      exact ⟨h1, ⟨t, ws, h2, belowG_spec hs.2 (subG_spec hs.1 h3)⟩, h4⟩
    · subst hs; exact hO
    · obtain ⟨rfl, rfl, rfl, rfl, rfl⟩ := hs; exact hO
    · obtain ⟨rfl, rfl, rfl, rfl, rfl⟩ := hs
      obtain ⟨h0, C, h1, h2, h3, h4, h5⟩ := hO
      exact ⟨h0, C, h1, h2, h3, h4, fun i off k' r e => by cases e⟩
    · obtain ⟨rfl, rfl, rfl, rfl, rfl, rfl⟩ := hs
      obtain ⟨h1, h2, h3, h4⟩ := hO
      exact ⟨h1, h2, h3, fun i off k' r e => by cases e⟩
    · obtain ⟨rfl, hs⟩ := hs; exact fitsF_spec hs hO
    · subst hs; exact hO
    · exact hs.elim
  · obtain ⟨oi', hi', hsi⟩ := fitsO_get hf.2 i oi hi
    obtain ⟨oj', hj', hsj⟩ := fitsO_get hf.2 j oj hj
    exact h.inv.apart i j oi' oj' g hij hi' hj' (subO_Wb hsi hwi) (subO_Wb hsj hwj)


end Go.Eng
