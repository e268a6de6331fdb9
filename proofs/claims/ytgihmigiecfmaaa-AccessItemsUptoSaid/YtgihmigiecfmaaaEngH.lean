/-
  The operations, go on: loads and stores at an index that is not known; slices that grow.
-/
import Derived.Test.YtgihmigiecfmaaaEngG
namespace Go.Eng
open Go Go.RowKit

/-! ### A piece of plain cells, by its head -/
def rseg : List Seg → Nat → Option (Nat × List Value)
  | [], _ => none
  | .c _ :: rest, b => if b = 0 then none else rseg rest (b - 1)
  | .r n ws :: rest, b => if b = 0 then some (n, ws) else if n ≤ b then rseg rest (b - n) else none

theorem RepG.seg {E : Env} : ∀ {row : List Seg} {us : List Value} {b n : Nat} {ws : List Value}, RepG E row us → rseg row b = some (n, ws) →
    ws.length = n ∧ b + n ≤ us.length ∧ ∀ (j : Nat) (w : Value), ws[j]? = some w → us[b + j]? = some w ∧ w.oneCell' = true
  | [], _, _, _, _, _, h => by cases h
  | .c x :: rest, _, b, n, ws, ⟨w, us', e, hv, hr⟩, h => by
    subst e
    simp only [rseg] at h
    split at h
    · cases h
    · rename_i hb
      obtain ⟨h1, h2, h3⟩ := RepG.seg hr h
      refine ⟨h1, by simp; omega, fun j w hj => ?_⟩
      rw [show b + j = (b - 1 + j) + 1 by omega, List.getElem?_cons_succ]
      exact h3 j w hj
  | .r m vs :: rest, _, b, n, ws, ⟨hl, ho, us', e, hr⟩, h => by
    subst e
    simp only [rseg] at h
    split at h
    · rename_i hb
      cases h
      subst hb
      refine ⟨hl, by simp; omega, fun j w hj => ?_⟩
      rw [Nat.zero_add, List.getElem?_append_left (List.getElem?_eq_some_iff.1 hj).1]
      exact ⟨hj, ho w (List.mem_of_getElem? hj)⟩
    · split at h
      · obtain ⟨h1, h2, h3⟩ := RepG.seg hr h
        refine ⟨h1, by simp; omega, fun j w hj => ?_⟩
        rw [List.getElem?_append_right (by omega), hl, show b + j - m = b - m + j by omega]
        exact h3 j w hj
      · cases h

def rsegset : List Seg → Nat → List Value → Option (List Seg)
  | [], _, _ => none
  | .c x :: rest, b, us => if b = 0 then none else (match rsegset rest (b - 1) us with | some l => some (.c x :: l) | none => none)
  | .r n ws :: rest, b, us => if b = 0 then some (.r n us :: rest) else if n ≤ b then (match rsegset rest (b - n) us with | some l => some (.r n ws :: l) | none => none) else none

theorem RepG.segset {E : Env} : ∀ {row row' : List Seg} {us : List Value} {b n : Nat} {ws ws' : List Value}, RepG E row us → rseg row b = some (n, ws) → rsegset row b ws' = some row' → ws'.length = n → (∀ w ∈ ws', w.oneCell' = true) →
    RepG E row' (us.take b ++ ws' ++ us.drop (b + n))
  | [], _, _, _, _, _, _, _, h, _, _, _ => by cases h
  | .c x :: rest, _, _, b, n, ws, ws', ⟨w, us', e, hv, hr⟩, h, h', hl, ho => by
    subst e
    simp only [rseg] at h
    simp only [rsegset] at h'
    split at h
    · cases h
    · rename_i hb
      rw [if_neg hb] at h'
      split at h'
      · rename_i l hl'
        cases h'
        have := RepG.segset hr h hl' hl ho
        obtain ⟨c, rfl⟩ : ∃ c, b = c + 1 := ⟨b - 1, by omega⟩
        refine ⟨w, _, ?_, hv, this⟩
        rw [show c + 1 + n = c + n + 1 by omega]
        simp
      · cases h'
  | .r m vs :: rest, _, _, b, n, ws, ws', ⟨hlm, hom, us', e, hr⟩, h, h', hl, ho => by
    subst e
    simp only [rseg] at h
    simp only [rsegset] at h'
    split at h
    · rename_i hb
      cases h
      rw [if_pos hb] at h'
      cases h'
      subst hb
      refine ⟨hl, ho, us', ?_, hr⟩
      rw [List.take_zero, List.nil_append, Nat.zero_add, ← hlm, List.drop_left]
    · rename_i hb
      rw [if_neg hb] at h'
      split at h
      · rename_i hle
        rw [if_pos hle] at h'
        split at h'
        · rename_i l hl'
          cases h'
          have := RepG.segset hr h hl' hl ho
          refine ⟨hlm, hom, _, ?_, this⟩
          rw [List.take_append, List.take_of_length_le (by omega), hlm, List.drop_append, List.drop_of_length_le (by omega), hlm, List.nil_append, show b + n - m = b - m + n by omega]
          simp only [List.append_assoc]
        · cases h'
      · cases h

/-! ### Loads -/
def ldK (t : TypeId) (row : List Seg) (off : Nat) (k : SV → Prop) : Prop :=
  match ldRow (tt t) row off with
  | some v => k v
  | none => False

def loadEpt (t : TypeId) (ob : Option Ob) (base sz i off : Nat) (k : SV → Prop) : Prop :=
  match ob with
  | some (.arr xs _ sz' _ _) => if base = 0 ∧ sz = sz' then ∃ row, xs[i]? = some row ∧ ldK t (segs row) off k else False
  | some (.box row) => match rseg row base with
    | some (_, ws) => if sz = 1 ∧ off = 0 ∧ (tt t).d.ok = true ∧ (tt t).d.agg = false then ∃ w, ws[i]? = some w ∧ k (.s (.p (.v w))) else False
    | none => False
  | some (.fbox row) => match rseg (segs row) base with
    | some (_, ws) => if sz = 1 ∧ off = 0 ∧ (tt t).d.ok = true ∧ (tt t).d.agg = false then ∃ w, ws[i]? = some w ∧ k (.s (.p (.v w))) else False
    | none => False
  | _ => False

def loadAny (st : St) (t : TypeId) (p : SV) (k : SV → Prop) : Prop :=
  match p with
  | .s (.ept j base sz i off) => loadEpt t st.ob[j]? base sz i off k
  | p => match addrRow st p with
    | some (row, off) => ldK t row off k
    | none => False

theorem run_load_one {P : Program} {W : World} {t : TypeId} {b o : Nat} {v : Value} {i : TI} (hok : TIok P t i) (ha : i.d.agg = false) (hc : W.cell? ⟨b, o, none⟩ = some v) : (Instr.loadAt t (.pointer (some ⟨b, o, none⟩))).run P W = .ok v W := by
  obtain ⟨d, hd, hf⟩ := hok.desc
  have hrow : d.isRow = false := by rw [fits_agg hf]; exact ha
  have hag : (isAgg t).run P W = .ok false W := by
    unfold isAgg
    rw [Sem.run_bind, run_underlying hd W]
    cases d <;> simp_all [TypeDesc.isRow]
  simp [Instr.loadAt, Instr.sureAddr, loadVar, Sem.run_bind, hag, load, Sem.run, hc]

theorem loadAny_spec {P : Program} (hT : TTok P) {B : Nat} {E : Env} {st : St} {a : Act} {W : World} {o : Oper} {t : TypeId} {p : Operand} {k : SV → Prop}
    (h : Inv B E st.ob W) (hF : RepF E st.fr a.tmps.toList) (ho : o.op = .load t p) (hk : loadAny st t (st.ev 0 p) k) : ∃ sv v, k sv ∧ (∀ W', Keeps W W' → (execOp a.eval o).run P W' = .ok (.value v) W') ∧ RepS E sv v := by
  have hp := RepS.ev hF 0 p
  generalize st.ev 0 p = sp at *
  have run : ∀ v, (∀ W', Keeps W W' → (Instr.loadAt t (a.eval p)).run P W' = .ok v W') → ∀ W', Keeps W W' → (execOp a.eval o).run P W' = .ok (.value v) W' := fun v hr W' hW => by
    unfold execOp; simp only [ho]; simp [hr W' hW]
  have gen : ∀ {row : List Seg} {off : Nat}, (∃ b o ws, a.eval p = .pointer (some ⟨b, o + off, none⟩) ∧ RepG E row ws ∧ ∀ (j : Nat) (v : Value), ws[j]? = some v → W.cell? ⟨b, o + j, none⟩ = some v) → ldK t row off k →
      ∃ sv v, k sv ∧ (∀ W', Keeps W W' → (execOp a.eval o).run P W' = .ok (.value v) W') ∧ RepS E sv v := fun ⟨b, o', ws, e, hr, hc⟩ hk => by
    unfold ldK at hk
    split at hk
    · rename_i sv hl
      obtain ⟨v, h1, h2⟩ := run_load_row (P := P) hT hr hc hl
      exact ⟨sv, v, hk, run v (fun W' hW => by rw [e]; exact h1 W' hW), h2⟩
    · exact hk.elim
  unfold loadAny at hk
  split at hk
  · rename_i j base sz i off
    unfold loadEpt at hk
    split at hk
    · rename_i xs e' sz' by_ wr hj
      split at hk
      · rename_i hc
        obtain ⟨rfl, rfl⟩ := hc
        obtain ⟨row, hrow, hk⟩ := hk
        refine gen (addrRow_spec (st := st) h (p := .s (.ept j 0 sz i off)) hp ?_) hk
        simp [addrRow, hj, hrow]
      · exact hk.elim
    · rename_i row hj
      split at hk
      · rename_i n ws hs
        split at hk
        · rename_i hc
          obtain ⟨rfl, rfl, hok, hag⟩ := hc
          obtain ⟨w, hw, hk⟩ := hk
          obtain ⟨_, ⟨ty, us, h2, h3⟩, _⟩ := h.obs j _ hj
          obtain ⟨_, _, hseg⟩ := h3.seg hs
          refine ⟨_, w, hk, run w (fun W' hW => ?_), rfl, (hseg i w hw).2⟩
          rw [hp.2]
          refine run_load_one (hT.of_ok hok) hag (hW _ _ ?_)
          rw [cell_of_row W _ _ _ ty (0, 0) h2, Nat.mul_one, Nat.add_zero]
          simpa using (hseg i w hw).1
        · exact hk.elim
      · exact hk.elim
    · rename_i row hj
      split at hk
      · rename_i n ws hs
        split at hk
        · rename_i hc
          obtain ⟨rfl, rfl, hok, hag⟩ := hc
          obtain ⟨w, hw, hk⟩ := hk
          obtain ⟨us, h1, h2⟩ := RepC.values (h.obs j _ hj)
          obtain ⟨_, _, hseg⟩ := (RepG.of_pure h1).seg hs
          refine ⟨_, w, hk, run w (fun W' hW => ?_), rfl, (hseg i w hw).2⟩
          rw [hp.2]
          refine run_load_one (hT.of_ok hok) hag (hW _ _ ?_)
          have := h.mu _ _ _ (h2 _ w (hseg i w hw).1)
          rw [Nat.zero_add] at this
          rw [Nat.mul_one, Nat.add_zero]
          exact this
        · exact hk.elim
      · exact hk.elim
    · exact hk.elim
  · split at hk
    · rename_i row off hrow
      exact gen (addrRow_spec h hp hrow) hk
    · exact hk.elim

/-! ### An own slice grows -/

theorem run_append_zero {P : Program} {W : World} {t ty e : TypeId} {i : TypeInfo} (ht : P.underlying t = some (.slice e)) (hi : P.info? e = some i) (base ad : Option Addr) (n cap c : Nat) (hc : n ≤ cap) :
    (Builtin.append_ #[t, t] ty #[.slice base n cap, .slice ad 0 c]).run P W = .ok (.slice base n cap) W := by
  cases ad <;> cases base <;> simp [Builtin.append_, run_underlying ht, sizeOf, typeInfo, hi, Builtin.lenOf, hc, Builtin.firstCells, loadCells, loadCellsFrom, storeCells]

theorem ownsRow_len {w : World} {base : Nat} {e : TypeId} {size : Nat} {v : Value} {n : Nat} {xs : List Value} (h : w.ownsRow base e size v n xs) : ∃ b cap, v = .slice b n cap ∧ n ≤ cap := by
  rcases h.2 with ⟨rfl, rfl⟩ | ⟨g, cap, cur, rfl, _, _, h1, _⟩
  · exact ⟨none, 0, rfl, Nat.le_refl _⟩
  · exact ⟨_, cap, rfl, h1⟩

/-- Append to an own slice: what the kit's law says, and that the old row's cells stand. -/
theorem run_append_own' {P : Program} (w : World) (base : Nat) (t ty e : TypeId) (i : TypeInfo) (z : Value) (ht : P.underlying t = some (.slice e)) (hi : P.info? e = some i) (hz : i.zero = some z) (hzs : z.cells.size = i.size) (hsz : 0 < i.size)
    (v : Value) (n : Nat) (xs : List Value) (hown : w.ownsRow base e i.size v n xs) (a : Addr) (m c : Nat) (news : List Value) (hl : news.length = m * i.size) (hm : 0 < m)
    (hnews : ∀ j u, news[j]? = some u → w.cell? (a.add j) = some u) (h1 : ∀ u ∈ news, u.oneCell' = true) (h63 : n + m ≤ maxLen) (hbytes : (n + m) * i.bytes ≤ 140737488355328) (hbase : base ≤ w.heap.size) :
    ∃ v' w' g', (Builtin.append_ #[t, t] ty #[v, .slice (some a) m c]).run P w = .ok v' w' ∧ w'.ownsRow base e i.size v' (n + m) (xs ++ news) ∧ w.grownBy w' v.ownBlock ∧ v'.ownBlock = some g' ∧
      (v.ownBlock = some g' ∨ w.heap.size ≤ g') ∧ (∀ g, v.ownBlock = some g → ∀ o u, o < xs.length → w.cell? ⟨g, o, none⟩ = some u → w'.cell? ⟨g, o, none⟩ = some u) := by
  obtain ⟨v', w', hr, ho, hg, hiff⟩ := run_append_own w base t ty e i z i.size i.bytes ht hi hz rfl rfl hzs hsz v n xs hown a m c news hl hnews h1 h63 hbytes hbase
  have hsmall : n + m ≤ 9223372036854775807 := by simp only [maxLen] at h63; omega
  rcases hown.2 with ⟨rfl, rfl⟩ | ⟨g, cap, cur, rfl, hbg, hgg, hnc, hcm, hcs, htake⟩
  · have hr' := run_append_nil (P := P) w t ty e i z ht hi hz a m c news hl hnews hm (by omega) (by have hb := hbytes; simp only [Nat.zero_add] at hb; omega)
    rw [hr] at hr'
    simp only [Result.ok.injEq] at hr'
    obtain ⟨rfl, rfl⟩ := hr'
    exact ⟨_, _, w.heap.size, hr, ho, hg, rfl, .inr (Nat.le_refl _), fun g hg => by cases hg⟩
  · by_cases hroom : n + m ≤ cap
    · have hfit : n * i.size + news.length ≤ cur.size := by rw [hl, hcs, ← Nat.add_mul]; exact Nat.mul_le_mul_right _ hroom
      have hr' := run_append_room (P := P) w t ty e i ht hi g n cap cur hgg a m c news hl hnews h1 hroom hfit
      rw [hr] at hr'
      simp only [Result.ok.injEq] at hr'
      obtain ⟨rfl, rfl⟩ := hr'
      refine ⟨_, _, g, hr, ho, hg, rfl, .inl rfl, fun g' hg' o u hlt hu => ?_⟩
      cases hg'
      rw [cell_of_row w g o cur e (0, 0) hgg] at hu
      rw [cell_setRow_same w g o cur _ e (0, 0) hgg]
      have hxl : xs.length = n * i.size := hown.1
      have : o < cur.size := (Array.getElem?_eq_some_iff.1 hu).1
      simp only [List.getElem?_toArray]
      rw [List.append_assoc, List.getElem?_append_left (by simp; omega), List.getElem?_take, if_pos (by omega)]
      simpa using hu
    · have holds : ∀ j u, xs[j]? = some u → w.cell? ((⟨g, 0, none⟩ : Addr).add j) = some u := hown.cells (g := g) rfl
      have hr' := run_append_grow (P := P) w t ty e i z ht hi hz ⟨g, 0, none⟩ n cap xs hown.1 holds a m c news hl hnews (by omega) (by omega) (growslice_fits (by omega) hbytes)
      rw [hr] at hr'
      simp only [Result.ok.injEq] at hr'
      obtain ⟨rfl, rfl⟩ := hr'
      refine ⟨_, _, w.heap.size, hr, ho, hg, rfl, .inr (Nat.le_refl _), fun g' hg' o u hlt hu => ?_⟩
      cases hg'
      have hlt' : g < w.heap.size := (Array.getElem?_eq_some_iff.1 hgg).1
      have e1 : (w.drew.alloc (.cells (xs.toArray ++ news.toArray ++ Builtin.zeroCells z.cells (grownCap w (n + m) cap e - (n + m))) e)).heap[g]? = w.heap[g]? := heap_alloc_old w.drew _ g hlt'
      rw [World.cell?_of_block (a := ⟨g, o, none⟩) e1]
      exact hu

end Go.Eng
