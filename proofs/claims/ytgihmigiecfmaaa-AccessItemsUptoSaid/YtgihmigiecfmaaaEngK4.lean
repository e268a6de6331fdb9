/-
  Slices of slices and of arrays.
-/
import Derived.Test.YtgihmigiecfmaaaEngK3
import Derived.Laws.Slices
namespace Go.Eng
open Go Go.RowKit

/-- A bound: left out, or a number (is it known?). -/
def bndOf (st : St) : Option Operand → Option (Option (Int × Bool))
  | none => some none
  | some x => match st.ev 0 x with
    | .s c => match intOf c with
      | some (_, n, l) => some (some (n, l))
      | none => none
    | _ => none

/-- What the bound is in the run. -/
def BndIs (v : Option Value) (b : Option (Int × Bool)) : Prop :=
  match b with
  | none => v = none
  | some (n, _) => ∃ k, v = some (.int k n)

theorem bndOf_spec {E : Env} {st : St} {a : Act} (hF : RepF E st.fr a.tmps.toList) {x : Option Operand} {b : Option (Int × Bool)} (h : bndOf st x = some b) : BndIs (x.map a.eval) b := by
  unfold bndOf at h
  split at h
  · cases h; rfl
  · rename_i x
    have hx := RepS.ev hF 0 x
    generalize st.ev 0 x = sx at *
    split at h
    · split at h
      · rename_i k n l hi
        cases h
        exact ⟨k, by rw [Option.map_some, intOf_spec hx hi]⟩
      · cases h
    · cases h

def natB (ar : Ar) : Int × Bool → Nat
  | (n, true) => n.toNat
  | (n, false) => ar.nat n

theorem natB_eq (b : Int × Bool) : natB arS b = b.1.toNat := by
  obtain ⟨n, l⟩ := b
  cases l <;> rfl

/-- The bounds hold; they are l and h of m. -/
def Cuts (lo hi : Option (Int × Bool)) (len cap l h : Nat) : Prop :=
  (match lo with | none => l = 0 | some (n, _) => n = l) ∧ (match hi with | none => h = len | some (n, _) => n = h) ∧ l ≤ h ∧ h ≤ cap ∧ len ≤ cap

theorem run_slice_cut {P : Program} (w : World) {t e : TypeId} {i : TypeInfo} {ad : Option Addr} {len cap l h : Nat} {lo hi : Option (Int × Bool)} {vl vh : Option Value} (ht : P.underlying t = some (.slice e)) (hi' : P.info? e = some i)
    (hl : BndIs vl lo) (hh : BndIs vh hi) (hc : Cuts lo hi len cap l h) : (Instr.sliceAt t (.slice ad len cap) vl vh none).run P w = .ok (sliced ad l h cap i.size) w := by
  have hel : P.elem t = e := by simp [Program.elem, ht]
  have ht' : P.underlying t = some (.slice (P.elem t)) := by rw [hel]; exact ht
  have hsz : (sizeOf (P.elem t)).run P w = .ok i.size w := by simp [sizeOf, typeInfo, hel, hi']
  obtain ⟨c1, c2, c3, c4, c5⟩ := hc
  rw [run_sliceAt_slice _ _ _ _ _ _ ht']
  cases lo with
  | none =>
    have e1 : vl = none := hl
    subst e1
    have e3 : l = 0 := c1
    subst e3
    cases hi with
    | none =>
      have e2 : vh = none := hh
      subst e2
      have e4 : h = len := c2
      subst e4
      rw [run_slice_all _ _ _ _ _ ht', hsz]; rfl
    | some b =>
      obtain ⟨n, bl⟩ := b
      obtain ⟨k, rfl⟩ := hh
      have e4 : n = h := c2
      subst e4
      rw [run_slice_h _ _ _ _ _ ht' _ _ (by omega) (by omega), hsz]
      simp
  | some a =>
    obtain ⟨n, al⟩ := a
    obtain ⟨k, rfl⟩ := hl
    have e3 : n = l := c1
    subst e3
    cases hi with
    | none =>
      have e2 : vh = none := hh
      subst e2
      have e4 : h = len := c2
      subst e4
      rw [run_slice_l _ _ _ _ _ ht' _ _ (by omega) (by omega), hsz]
      simp
    | some b =>
      obtain ⟨n, bl⟩ := b
      obtain ⟨k', rfl⟩ := hh
      have e4 : n = h := c2
      subst e4
      rw [run_slice_lh _ _ _ _ _ ht' _ _ _ _ (by omega) (by omega) (by omega), hsz]
      simp

theorem run_slice_arr {P : Program} (w : World) {t e : TypeId} {i : TypeInfo} {ad : Addr} {n l h : Nat} {lo hi : Option (Int × Bool)} {vl vh : Option Value} (ht : P.underlying t = some (.array n e)) (hi' : P.info? e = some i)
    (hl : BndIs vl lo) (hh : BndIs vh hi) (hc : Cuts lo hi n n l h) : (Instr.sliceAt t (.pointer (some ad)) vl vh none).run P w = .ok (sliced (some ad) l h n i.size) w := by
  have hel : P.elem t = e := by simp [Program.elem, ht]
  have hln : P.arrayLen t = n := by simp [Program.arrayLen, ht]
  have ht' : P.underlying t = some (.array (P.arrayLen t) (P.elem t)) := by rw [hel, hln]; exact ht
  have hsz : (sizeOf (P.elem t)).run P w = .ok i.size w := by simp [sizeOf, typeInfo, hel, hi']
  have hs : ∀ l h, slicedAt ad l h n i.size = sliced (some ad) l h n i.size := fun l h => by unfold slicedAt sliced; split <;> rfl
  obtain ⟨c1, c2, c3, c4, c5⟩ := hc
  cases lo with
  | none =>
    have e1 : vl = none := hl
    subst e1
    have e3 : l = 0 := c1
    subst e3
    cases hi with
    | none =>
      have e2 : vh = none := hh
      subst e2
      have e4 : h = n := c2
      subst e4
      rw [run_sliceAt_array_all _ _ _ ht', hsz, hln]; simp [hs]
    | some b =>
      obtain ⟨q, bl⟩ := b
      obtain ⟨k, rfl⟩ := hh
      have e4 : q = h := c2
      subst e4
      rw [run_sliceAt_array_h _ _ _ ht' _ _ (by omega) (by omega), hsz, hln]
      simp [hs]
  | some a =>
    obtain ⟨q, al⟩ := a
    obtain ⟨k, rfl⟩ := hl
    have e3 : q = l := c1
    subst e3
    cases hi with
    | none =>
      have e2 : vh = none := hh
      subst e2
      have e4 : h = n := c2
      subst e4
      rw [run_sliceAt_array_l _ _ _ ht' _ _ (by omega) (by omega), hsz, hln]
      simp [hs]
    | some b =>
      obtain ⟨q, bl⟩ := b
      obtain ⟨k', rfl⟩ := hh
      have e4 : q = h := c2
      subst e4
      rw [run_sliceAt_array_lh _ _ _ ht' _ _ _ _ (by omega) (by omega) (by omega), hsz, hln]
      simp [hs]

/-- A piece of a slice that stands in memory. -/
theorem RepV.cut {m : Mem} {xs s : List (List PS)} {ad : Option Addr} {len cap l h sz : Nat} (hr : RepV m (.sl xs s) (.slice ad len cap)) (hlh : l ≤ h) (hh : h ≤ xs.length + s.length) (hz : l = 0 ∨ ∀ z ∈ xs ++ s, rlen z = sz) :
    RepV m (.sl (((xs ++ s).take h).drop l) ((xs ++ s).drop h)) (sliced ad l h cap sz) := by
  rw [RepV] at hr ⊢
  obtain ⟨ad', cap', e, hcap, hel⟩ := hr
  simp only [Value.slice.injEq] at e
  obtain ⟨rfl, hlen, rfl⟩ := e
  subst hlen
  unfold sliced
  have hl1 : (((xs ++ s).take h).drop l).length = h - l := by simp; omega
  have hl2 : ((xs ++ s).drop h).length = xs.length + s.length - h := by simp
  refine ⟨_, cap - l, by rw [hl1], by rw [hl1, hl2]; omega, ?_⟩
  rcases hel with ⟨rfl, rfl⟩ | ⟨b, o, sz', rfl, hE, hE2⟩
  · exact .inl ⟨by simp, by simp⟩
  · have hall := hE.append hE2
    by_cases hcl : cap = l
    · refine .inl ⟨List.eq_nil_of_length_eq_zero (by rw [hl1]; omega), List.eq_nil_of_length_eq_zero (by rw [hl2]; omega)⟩
    · rw [if_neg hcl]
      by_cases hne : xs ++ s = []
      · exact .inl ⟨by rw [hne]; simp, by rw [hne]; simp⟩
      · have hszl : l = 0 ∨ sz' = sz := by
          rcases hz with hz | hz
          · exact .inl hz
          · refine .inr ?_
            obtain ⟨z, zs, ez⟩ : ∃ z zs, xs ++ s = z :: zs := by
              cases hh : xs ++ s with
              | nil => exact absurd hh hne
              | cons z zs => exact ⟨z, zs, rfl⟩
            rw [← (hall.get 0 z (by rw [ez]; rfl)).1]
            exact hz z (by rw [ez]; simp)
        have e1 : l * sz = l * sz' := by rcases hszl with h | h <;> rw [h]; simp
        refine .inr ⟨b, o + l * sz', sz', by rw [e1, Option.map_some, Addr.add_mid], ?_, ?_⟩
        · exact (hall.take h).drop l
        · rw [hl1]
          have := hall.drop h
          rw [show o + l * sz' + (h - l) * sz' = o + h * sz' by rw [Nat.add_assoc, ← Nat.add_mul]; congr 2; omega]
          exact this

def catS (ar : Ar) (xs : List (List PS)) : List (List PS) → List (List PS)
  | [] => xs
  | y :: ys => ar.app xs (y :: ys)

theorem catS_eq (xs s : List (List PS)) : catS arS xs s = xs ++ s := by cases s <;> simp [catS, arS]

def cutP (ar : Ar) (sz : Nat) (xs s : List (List PS)) (lo hi : Option (Int × Bool)) (k : PV → Prop) : Prop :=
  match lo, hi with
  | none, none => k (.sl xs s)
  | none, some h => (True → 0 ≤ h.1 ∧ h.1 ≤ ((xs.length + s.length : Nat) : Int)) ∧ k (.sl (ar.mid (catS ar xs s) 0 (natB ar h)) (ar.frm (catS ar xs s) (natB ar h)))
  | some l, none => (True → 0 ≤ l.1 ∧ l.1 ≤ (xs.length : Int) ∧ (∀ z ∈ xs, rlen z = sz) ∧ ∀ z ∈ s, rlen z = sz) ∧ k (.sl (ar.frm xs (natB ar l)) s)
  | some l, some h => (True → 0 ≤ l.1 ∧ l.1 ≤ h.1 ∧ h.1 ≤ ((xs.length + s.length : Nat) : Int) ∧ (∀ z ∈ xs, rlen z = sz) ∧ ∀ z ∈ s, rlen z = sz) ∧
      k (.sl (ar.mid (catS ar xs s) (natB ar l) (natB ar h)) (ar.frm (catS ar xs s) (natB ar h)))

theorem cutP_spec {m : Mem} {xs s : List (List PS)} {w : Value} {sz : Nat} {lo hi : Option (Int × Bool)} {k : PV → Prop} (hr : RepV m (.sl xs s) w) (h : cutP arS sz xs s lo hi k) :
    ∃ ad cap x lv hv, w = .slice ad xs.length cap ∧ k x ∧ Cuts lo hi xs.length cap lv hv ∧ RepV m x (sliced ad lv hv cap sz) := by
  have hr' := hr
  rw [RepV] at hr'
  obtain ⟨ad, cap, ew, hcap, _⟩ := hr'
  subst ew
  have cut := fun l h => RepV.cut (l := l) (h := h) (sz := sz) hr
  unfold cutP at h
  split at h
  · have := cut 0 xs.length (by omega) (by omega) (.inl rfl)
    simp only [List.take_left', List.drop_zero, List.drop_left'] at this
    exact ⟨ad, cap, _, 0, xs.length, rfl, h, ⟨rfl, rfl, by omega, by omega, by omega⟩, by simpa using this⟩
  · rename_i hb
    obtain ⟨hs, hk⟩ := h
    obtain ⟨h1, h2⟩ := hs trivial
    have := cut 0 hb.1.toNat (by omega) (by omega) (.inl rfl)
    rw [catS_eq, natB_eq] at hk
    exact ⟨ad, cap, _, 0, hb.1.toNat, rfl, hk, ⟨rfl, by obtain ⟨q, _⟩ := hb; simp only at *; omega, by omega, by omega, by omega⟩, this⟩
  · rename_i lb
    obtain ⟨hs, hk⟩ := h
    obtain ⟨h1, h2, h3, h4⟩ := hs trivial
    have := cut lb.1.toNat xs.length (by omega) (by omega) (.inr fun z hz => (List.mem_append.1 hz).elim (h3 z) (h4 z))
    rw [natB_eq] at hk
    refine ⟨ad, cap, _, lb.1.toNat, xs.length, rfl, hk, ⟨by obtain ⟨q, _⟩ := lb; simp only at *; omega, rfl, by omega, by omega, by omega⟩, ?_⟩
    simpa [arS] using this
  · rename_i lb hb
    obtain ⟨hs, hk⟩ := h
    obtain ⟨h1, h2, h3, h4, h5⟩ := hs trivial
    have := cut lb.1.toNat hb.1.toNat (by omega) (by omega) (.inr fun z hz => (List.mem_append.1 hz).elim (h4 z) (h5 z))
    rw [catS_eq, natB_eq, natB_eq] at hk
    exact ⟨ad, cap, _, lb.1.toNat, hb.1.toNat, rfl, hk, ⟨by obtain ⟨q, _⟩ := lb; simp only at *; omega, by obtain ⟨q, _⟩ := hb; simp only at *; omega, by omega, by omega, by omega⟩, this⟩

/-- Both bounds are known. -/
def litCut (lo hi : Option (Int × Bool)) (len : Nat) : Option (Nat × Nat) :=
  match lo, hi with
  | none, none => some (0, len)
  | none, some (h, true) => if 0 ≤ h ∧ h ≤ (len : Int) then some (0, h.toNat) else none
  | some (l, true), none => if 0 ≤ l ∧ l ≤ (len : Int) then some (l.toNat, len) else none
  | some (l, true), some (h, true) => if 0 ≤ l ∧ l ≤ h ∧ h ≤ (len : Int) then some (l.toNat, h.toNat) else none
  | _, _ => none

theorem litCut_spec {lo hi : Option (Int × Bool)} {len cap l h : Nat} (hc : litCut lo hi len = some (l, h)) (hcap : len ≤ cap) : Cuts lo hi len cap l h ∧ h ≤ len := by
  unfold litCut at hc
  split at hc
  · cases hc; exact ⟨⟨rfl, rfl, by omega, by omega, hcap⟩, by omega⟩
  · split at hc
    · cases hc; rename_i h1; exact ⟨⟨rfl, by simp only; omega, by omega, by omega, hcap⟩, by omega⟩
    · cases hc
  · split at hc
    · cases hc; rename_i h1; exact ⟨⟨by simp only; omega, rfl, by omega, by omega, hcap⟩, by omega⟩
    · cases hc
  · split at hc
    · cases hc; rename_i h1; exact ⟨⟨by simp only; omega, by simp only; omega, by omega, by omega, hcap⟩, by omega⟩
    · cases hc
  · cases hc

def sliceP (ar : Ar) (st : St) (t : TypeId) (x : SV) (lo hi : Option Operand) (k : SV → St → Prop) : Prop :=
  match bndOf st lo with
  | some bl => match bndOf st hi with
    | some bh => match (tt t).d with
      | .slice e => if (tt e).d.ok = true then
          match x with
          | .s (.bsl j off n sz) => match litCut bl bh n with
            | some (l, h) => if sz = (tt e).size then k (.s (.bsl j (off + l * sz) (h - l) sz)) st else False
            | none => match (SV.s (.bsl j off n sz)).use ar st.ob with
              | some (.s (.sl xs s), ob') => cutP ar (tt e).size xs s bl bh fun y => k (.s (.p y)) ⟨st.fr, ob'⟩
              | _ => False
          | x => match x.use ar st.ob with
            | some (.s (.sl xs s), ob') => cutP ar (tt e).size xs s bl bh fun y => k (.s (.p y)) ⟨st.fr, ob'⟩
            | _ => False
        else False
      | .arr n e => if (tt e).d.ok = true then
          match x with
          | .s (.ptr j off) => match litCut bl bh n with
            | some (l, h) => k (.s (.bsl j (off + l * (tt e).size) (h - l) (tt e).size)) st
            | none => match decide (64 < n ∧ (tt e).size = 1), bl, bh with
              | true, some l, none => (True → 0 ≤ l.1 ∧ l.1 ≤ (n : Int)) ∧ k (.s (.psl j off n (natB ar l))) st
              | _, _, _ => match (SV.s (.bsl j off n (tt e).size)).use ar st.ob with
                | some (.s (.sl xs s), ob') => cutP ar (tt e).size xs s bl bh fun y => k (.s (.p y)) ⟨st.fr, ob'⟩
                | _ => False
          | .s (.ipt row off) => match chunks ar row off n (tt e).size with
            | some xs => cutP ar (tt e).size xs [] bl bh fun y => k (.s (.p y)) st
            | none => False
          | _ => False
        else False
      | _ => False
    | none => False
  | none => False

theorem sliceP_spec {P : Program} (hT : TTok P) {B : Nat} {W0 : World} {m0 : Mem} {E : Env} {st : St} {a : Act} {W : World} {o : Oper} {t : TypeId} {x : Operand} {lo hi : Option Operand} {k : SV → St → Prop}
    (hS : Sim B W0 m0 E st a W) (ho : o.op = .slice t x lo hi none) (hk : sliceP arS st t (st.ev 0 x) lo hi k) :
    ∃ sv st' E' v, k sv st' ∧ Sim B W0 m0 E' st' a W ∧ (∀ W', (execOp a.eval o).run P W' = .ok (.value v) W') ∧ RepS E' sv v := by
  have hx := RepS.ev hS.fr 0 x
  have fin : ∀ v, (∀ W', (Instr.sliceAt t (a.eval x) (lo.map a.eval) (hi.map a.eval) none).run P W' = .ok v W') → ∀ W', (execOp a.eval o).run P W' = .ok (.value v) W' := fun v hr W' => by
    unfold execOp
    simp only [ho, Option.map_none]
    simp [hr W']
  generalize st.ev 0 x = sx at *
  unfold sliceP at hk
  split at hk
  · rename_i bl hbl
    split at hk
    · rename_i bh hbh
      have hl := bndOf_spec hS.fr hbl
      have hh := bndOf_spec hS.fr hbh
      split at hk
      · rename_i e hd
        obtain ⟨d, hd1, hd2⟩ := (hT.of_ok (t := t) (by rw [hd]; rfl)).desc
        rw [hd] at hd2
        cases d <;> try exact False.elim hd2
        cases hd2
        split at hk
        · rename_i hok
          obtain ⟨ti, z, hti, hs1, _⟩ := (hT.of_ok hok).info
          have gen : ∀ {sx : SV}, RepS E sx (a.eval x) → (match sx.use arS st.ob with | some (.s (.sl xs s), ob') => cutP arS (tt e).size xs s bl bh fun y => k (.s (.p y)) ⟨st.fr, ob'⟩ | _ => False) →
              ∃ sv st' E' v, k sv st' ∧ Sim B W0 m0 E' st' a W ∧ (∀ W', (execOp a.eval o).run P W' = .ok (.value v) W') ∧ RepS E' sv v := fun {sx} hx hk => by
            split at hk
            · rename_i xs s ob' hu
              obtain ⟨E1, e1, i1, r1⟩ := SV.use_spec hS.inv hx hu
              obtain ⟨ad, cap, y, lv, hv, ew, hky, hc, hry⟩ := cutP_spec (m := E1.μ) r1 hk
              refine ⟨_, _, E1, _, hky, hS.ext e1 i1, fin _ fun W' => ?_, hry⟩
              rw [ew, ← hs1]
              exact run_slice_cut W' hd1 hti hl hh hc
            · exact hk.elim
          split at hk
          · rename_i j off n sz
            split at hk
            · rename_i l h hlc
              split at hk
              · rename_i hsz
                subst hsz
                obtain ⟨hjn, o', cap, ex, hcap, ho'⟩ := hx
                obtain ⟨hc, hhl⟩ := litCut_spec hlc hcap
                have hlh := hc.2.2.1
                refine ⟨_, st, E, _, hk, hS, fin _ fun W' => by rw [ex]; exact run_slice_cut W' hd1 hti hl hh hc, hjn, ?_⟩
                unfold sliced
                refine ⟨if cap = l then o' else o' + l * (tt e).size, cap - l, ?_, by omega, fun hpos => ?_⟩
                · rw [hs1]
                  split
                  · rfl
                  · rw [Option.map_some, Addr.add_mid]
                · rw [if_neg (by omega), ho' (by omega)]
              · exact hk.elim
            · exact gen hx hk
          · exact gen hx hk
        · exact hk.elim
      · rename_i n e hd
        obtain ⟨d, hd1, hd2⟩ := (hT.of_ok (t := t) (by rw [hd]; rfl)).desc
        rw [hd] at hd2
        cases d <;> try exact False.elim hd2
        obtain ⟨rfl, rfl⟩ := hd2
        split at hk
        · rename_i hok
          obtain ⟨ti, z, hti, hs1, _⟩ := (hT.of_ok hok).info
          split at hk
          · rename_i j off
            split at hk
            · rename_i l h hlc
              obtain ⟨hc, hhl⟩ := litCut_spec hlc (Nat.le_refl n)
              have hlh := hc.2.2.1
              refine ⟨_, st, E, _, hk, hS, fin _ fun W' => by rw [hx.2]; exact run_slice_arr W' hd1 hti hl hh hc, hx.1, ?_⟩
              unfold sliced
              refine ⟨if n = l then off else off + l * (tt e).size, n - l, ?_, by omega, fun hpos => ?_⟩
              · rw [hs1]
                split
                · rfl
                · rw [Option.map_some, Addr.add_mid]
              · rw [if_neg (by omega)]
            · split at hk
              · rename_i l _ _
                have hd3 : 64 < n ∧ (tt e).size = 1 := of_decide_eq_true (by assumption)
                obtain ⟨hside, hk⟩ := hk
                have hb := hside trivial
                have hc : Cuts (some l) none n n (natB arS l) n := by
                  rw [natB_eq]
                  exact ⟨by simp only; omega, rfl, by omega, by omega, Nat.le_refl _⟩
                have hlh := hc.2.2.1
                refine ⟨_, st, E, _, hk, hS, fin _ fun W' => by rw [hx.2]; exact run_slice_arr W' hd1 hti hl hh hc, hx.1, hlh, if n = natB arS l then off else off + natB arS l, ?_, fun hpos => by rw [if_neg (by omega)]⟩
                unfold sliced
                rw [hs1, hd3.2, Nat.mul_one]
                split
                · rfl
                · rw [Option.map_some, Addr.add_mid]
              split at hk
              · rename_i xs s ob' hu
                have hx2 : RepS E (.s (.bsl j off n (tt e).size)) (.slice (some ⟨E.ρ j, off, none⟩) n n) := ⟨hx.1, off, n, rfl, Nat.le_refl _, fun _ => rfl⟩
                obtain ⟨E1, e1, i1, r1⟩ := SV.use_spec hS.inv hx2 hu
                obtain ⟨ad, cap, y, lv, hv, ew, hky, hc, hry⟩ := cutP_spec (m := E1.μ) r1 hk
                simp only [Value.slice.injEq] at ew
                obtain ⟨rfl, rfl, rfl⟩ := ew
                refine ⟨_, _, E1, _, hky, hS.ext e1 i1, fin _ fun W' => ?_, hry⟩
                rw [hx.2, ← hs1]
                exact run_slice_arr W' hd1 hti hl hh hc
              · exact hk.elim
          · rename_i row off
            split at hk
            · rename_i xs hxs
              obtain ⟨b, o', ex, hrow⟩ := hx
              obtain ⟨hE, hxl⟩ := hrow.chunks hxs
              have r1 : RepV E.μ (.sl xs []) (.slice (some ⟨b, o' + off, none⟩) n n) := by
                rw [RepV]
                exact ⟨_, n, by rw [hxl], by simp [hxl], .inr ⟨b, o' + off, _, rfl, hE, by simp [RepE]⟩⟩
              obtain ⟨ad, cap, y, lv, hv, ew, hky, hc, hry⟩ := cutP_spec r1 hk
              simp only [Value.slice.injEq] at ew
              obtain ⟨rfl, rfl, rfl⟩ := ew
              refine ⟨_, st, E, _, hky, hS, fin _ fun W' => ?_, hry⟩
              rw [ex, ← hs1]
              exact run_slice_arr W' hd1 hti hl hh hc
            · exact hk.elim
          · exact hk.elim
        · exact hk.elim
      · exact hk.elim
    · exact hk.elim
  · exact hk.elim

end Go.Eng
