/-
  Authorizations and transactions as plain data; equality of cells. No program in sight. No condition.
-/
import Derived.Test.YtejelaaocjfjbaaUA
import Derived.Test.YtejelaaocjfjbaaA0
namespace Go.Eng
open Go Go.Proofs
set_option maxRecDepth 100000
set_option linter.unusedVariables false

def bytesOk (bs : List Int) : Prop := ∀ b ∈ bs, 0 ≤ b ∧ b < 256
/-- An authorization. -/
structure Au where
  ch : Nat
  a : List Int
  no : Nat
  pa : Nat
  r : Nat
  s : Nat

def Au.row (u : Au) : List PS := [.r 4 (w4 u.ch), .r 20 (u8s u.a), .c (.v (.int .u64 u.no)), .c (.v (.int .u64 u.pa)), .r 4 (w4 u.r), .r 4 (w4 u.s)]
def Au.ok (u : Au) : Prop := u.ch < M256 ∧ u.a.length = 20 ∧ u.no < 18446744073709551616 ∧ u.pa < 18446744073709551616 ∧ u.r < M256 ∧ u.s < M256
theorem list20 : ∀ a : List Int, a.length = 20 → ∃ a0 a1 a2 a3 a4 a5 a6 a7 a8 a9 a10 a11 a12 a13 a14 a15 a16 a17 a18 a19, a = [a0, a1, a2, a3, a4, a5, a6, a7, a8, a9, a10, a11, a12, a13, a14, a15, a16, a17, a18, a19]
  | [a0, a1, a2, a3, a4, a5, a6, a7, a8, a9, a10, a11, a12, a13, a14, a15, a16, a17, a18, a19], _ => ⟨a0, a1, a2, a3, a4, a5, a6, a7, a8, a9, a10, a11, a12, a13, a14, a15, a16, a17, a18, a19, rfl⟩

theorem wf64 {n : Nat} (h : n < 18446744073709551616) : (Lit.int .u64 (n : Int)).wf = true := by
  simp only [Lit.wf, Bool.and_eq_true, decide_eq_true_eq]
  have e1 : IntKind.u64.min = 0 := by decide
  have e2 : IntKind.u64.max = 18446744073709551615 := by decide
  omega
theorem wf8 {n : Int} (h : 0 ≤ n ∧ n < 256) : (Lit.int .u8 n).wf = true := by
  simp only [Lit.wf, Bool.and_eq_true, decide_eq_true_eq]
  have e1 : IntKind.u8.min = 0 := by decide
  have e2 : IntKind.u8.max = 255 := by decide
  omega
theorem okL_run {k : IntKind} {l : List Leaf} {ws : List Value} : ∀ {vs : List Value}, (∀ v ∈ vs, ∃ n, v = .int k n ∧ (Lit.int k n).wf = true) → okL l ws → okL (List.replicate vs.length (some k) ++ l) (vs ++ ws)
  | [], _, h => h
  | v :: vs, h, h2 => ⟨h v (by simp), okL_run (fun x hx => h x (by simp [hx])) h2⟩
theorem eqVals_self {l : List Leaf} : ∀ {l : List Leaf} {vs : List Value}, okL l vs → eqVals vs vs = true
  | [], [], _ => rfl
  | some k :: l, v :: vs, ⟨⟨n, e, _⟩, h⟩ => by subst e; simp [eqVals, intEq, eqVals_self (l := l) h]
  | none :: l, v :: vs, ⟨⟨b, e⟩, h⟩ => by subst e; simp [eqVals, intEq, eqVals_self (l := l) h]
theorem w4_wf (n : Nat) : ∀ v ∈ w4 n, ∃ z, v = .int .u64 z ∧ (Lit.int .u64 z).wf = true := fun v hv => by
  simp only [w4, List.mem_cons, List.not_mem_nil, or_false] at hv
  rcases hv with rfl | rfl | rfl | rfl <;> exact ⟨_, rfl, wf64 (Nat.mod_lt _ (by decide))⟩
theorem u8s_wf {a : List Int} (h : bytesOk a) : ∀ v ∈ u8s a, ∃ z, v = .int .u8 z ∧ (Lit.int .u8 z).wf = true := fun v hv => by
  rw [u8s, List.mem_map] at hv
  obtain ⟨b, hb, rfl⟩ := hv
  exact ⟨b, rfl, wf8 (h b hb)⟩

theorem au_cells (u : Au) (h : u.ok) (hb : bytesOk u.a) : ∃ (x0 x1 x2 x3 : Int) (a0 a1 a2 a3 a4 a5 a6 a7 a8 a9 a10 a11 a12 a13 a14 a15 a16 a17 a18 a19 : Int) (c3 c4 : Int) (y0 y1 y2 y3 z0 z1 z2 z3 : Int), u.row = [.r 4 [.int .u64 x0, .int .u64 x1, .int .u64 x2, .int .u64 x3], .r 20 [.int .u8 a0, .int .u8 a1, .int .u8 a2, .int .u8 a3, .int .u8 a4, .int .u8 a5, .int .u8 a6, .int .u8 a7, .int .u8 a8, .int .u8 a9, .int .u8 a10, .int .u8 a11, .int .u8 a12, .int .u8 a13, .int .u8 a14, .int .u8 a15, .int .u8 a16, .int .u8 a17, .int .u8 a18, .int .u8 a19], .c (.v (.int .u64 c3)), .c (.v (.int .u64 c4)), .r 4 [.int .u64 y0, .int .u64 y1, .int .u64 y2, .int .u64 y3], .r 4 [.int .u64 z0, .int .u64 z1, .int .u64 z2, .int .u64 z3]] ∧
    okL [some .u64, some .u64, some .u64, some .u64, some .u8, some .u8, some .u8, some .u8, some .u8, some .u8, some .u8, some .u8, some .u8, some .u8, some .u8, some .u8, some .u8, some .u8, some .u8, some .u8, some .u8, some .u8, some .u8, some .u8, some .u64, some .u64, some .u64, some .u64, some .u64, some .u64, some .u64, some .u64, some .u64, some .u64] [.int .u64 x0, .int .u64 x1, .int .u64 x2, .int .u64 x3, .int .u8 a0, .int .u8 a1, .int .u8 a2, .int .u8 a3, .int .u8 a4, .int .u8 a5, .int .u8 a6, .int .u8 a7, .int .u8 a8, .int .u8 a9, .int .u8 a10, .int .u8 a11, .int .u8 a12, .int .u8 a13, .int .u8 a14, .int .u8 a15, .int .u8 a16, .int .u8 a17, .int .u8 a18, .int .u8 a19, .int .u64 c3, .int .u64 c4, .int .u64 y0, .int .u64 y1, .int .u64 y2, .int .u64 y3, .int .u64 z0, .int .u64 z1, .int .u64 z2, .int .u64 z3] := by
  obtain ⟨ch, a, no, pa, r, s⟩ := u
  obtain ⟨h1, h20, h3, h4, h5, h6⟩ := h
  have hs : okL (List.replicate (w4 s).length (some .u64) ++ []) (w4 s ++ []) := okL_run (w4_wf s) trivial
  have hr := okL_run (w4_wf r) hs
  have hp : okL (some .u64 :: _) (.int .u64 (pa : Int) :: _) := ⟨⟨_, rfl, wf64 h4⟩, hr⟩
  have hn : okL (some .u64 :: _) (.int .u64 (no : Int) :: _) := ⟨⟨_, rfl, wf64 h3⟩, hp⟩
  have ha := okL_run (u8s_wf hb) hn
  have hc := okL_run (w4_wf ch) ha
  obtain ⟨a0, a1, a2, a3, a4, a5, a6, a7, a8, a9, a10, a11, a12, a13, a14, a15, a16, a17, a18, a19, rfl⟩ := list20 a h20
  exact ⟨_, _, _, _, _, _, _, _, _, _, _, _, _, _, _, _, _, _, _, _, _, _, _, _, _, _, _, _, _, _, _, _, _, _, rfl, hc⟩


def Au.cells (u : Au) : List Value := w4 u.ch ++ (u8s u.a ++ (.int .u64 (u.no : Int) :: .int .u64 (u.pa : Int) :: (w4 u.r ++ w4 u.s)))
theorem au_cells2 (u : Au) (h : u.ok) (hb : bytesOk u.a) : ∃ (x0 x1 x2 x3 : Int) (a0 a1 a2 a3 a4 a5 a6 a7 a8 a9 a10 a11 a12 a13 a14 a15 a16 a17 a18 a19 : Int) (c3 c4 : Int) (y0 y1 y2 y3 z0 z1 z2 z3 : Int), u.row = [.r 4 [.int .u64 x0, .int .u64 x1, .int .u64 x2, .int .u64 x3], .r 20 [.int .u8 a0, .int .u8 a1, .int .u8 a2, .int .u8 a3, .int .u8 a4, .int .u8 a5, .int .u8 a6, .int .u8 a7, .int .u8 a8, .int .u8 a9, .int .u8 a10, .int .u8 a11, .int .u8 a12, .int .u8 a13, .int .u8 a14, .int .u8 a15, .int .u8 a16, .int .u8 a17, .int .u8 a18, .int .u8 a19], .c (.v (.int .u64 c3)), .c (.v (.int .u64 c4)), .r 4 [.int .u64 y0, .int .u64 y1, .int .u64 y2, .int .u64 y3], .r 4 [.int .u64 z0, .int .u64 z1, .int .u64 z2, .int .u64 z3]] ∧
    okL [some .u64, some .u64, some .u64, some .u64, some .u8, some .u8, some .u8, some .u8, some .u8, some .u8, some .u8, some .u8, some .u8, some .u8, some .u8, some .u8, some .u8, some .u8, some .u8, some .u8, some .u8, some .u8, some .u8, some .u8, some .u64, some .u64, some .u64, some .u64, some .u64, some .u64, some .u64, some .u64, some .u64, some .u64] [.int .u64 x0, .int .u64 x1, .int .u64 x2, .int .u64 x3, .int .u8 a0, .int .u8 a1, .int .u8 a2, .int .u8 a3, .int .u8 a4, .int .u8 a5, .int .u8 a6, .int .u8 a7, .int .u8 a8, .int .u8 a9, .int .u8 a10, .int .u8 a11, .int .u8 a12, .int .u8 a13, .int .u8 a14, .int .u8 a15, .int .u8 a16, .int .u8 a17, .int .u8 a18, .int .u8 a19, .int .u64 c3, .int .u64 c4, .int .u64 y0, .int .u64 y1, .int .u64 y2, .int .u64 y3, .int .u64 z0, .int .u64 z1, .int .u64 z2, .int .u64 z3] ∧ [.int .u64 x0, .int .u64 x1, .int .u64 x2, .int .u64 x3, .int .u8 a0, .int .u8 a1, .int .u8 a2, .int .u8 a3, .int .u8 a4, .int .u8 a5, .int .u8 a6, .int .u8 a7, .int .u8 a8, .int .u8 a9, .int .u8 a10, .int .u8 a11, .int .u8 a12, .int .u8 a13, .int .u8 a14, .int .u8 a15, .int .u8 a16, .int .u8 a17, .int .u8 a18, .int .u8 a19, .int .u64 c3, .int .u64 c4, .int .u64 y0, .int .u64 y1, .int .u64 y2, .int .u64 y3, .int .u64 z0, .int .u64 z1, .int .u64 z2, .int .u64 z3] = u.cells := by
  obtain ⟨ch, a, no, pa, r, s⟩ := u
  obtain ⟨h1, h20, h3, h4, h5, h6⟩ := h
  have hs : okL (List.replicate (w4 s).length (some .u64) ++ []) (w4 s ++ []) := okL_run (w4_wf s) trivial
  have hr := okL_run (w4_wf r) hs
  have hp : okL (some .u64 :: _) (.int .u64 (pa : Int) :: _) := ⟨⟨_, rfl, wf64 h4⟩, hr⟩
  have hn : okL (some .u64 :: _) (.int .u64 (no : Int) :: _) := ⟨⟨_, rfl, wf64 h3⟩, hp⟩
  have ha := okL_run (u8s_wf hb) hn
  have hc := okL_run (w4_wf ch) ha
  obtain ⟨a0, a1, a2, a3, a4, a5, a6, a7, a8, a9, a10, a11, a12, a13, a14, a15, a16, a17, a18, a19, rfl⟩ := list20 a h20
  exact ⟨_, _, _, _, _, _, _, _, _, _, _, _, _, _, _, _, _, _, _, _, _, _, _, _, _, _, _, _, _, _, _, _, _, _, rfl, hc, rfl⟩


theorem eqVals_append : ∀ {a b c d : List Value}, a.length = c.length → eqVals (a ++ b) (c ++ d) = (eqVals a c && eqVals b d)
  | [], _, [], _, _ => by simp [eqVals]
  | x :: a, b, y :: c, d, h => by
    simp only [List.cons_append, eqVals]
    rw [eqVals_append (by simpa using h), Bool.and_assoc]
  | [], _, _ :: _, _, h => by cases h
  | _ :: _, _, [], _, h => by cases h
theorem eqV4 {n m : Nat} (hn : n < M256) (hm : m < M256) : eqVals (w4 n) (w4 m) = decide (n = m) := by
  obtain ⟨a, b, c, d, ha, hb, hc, hd, rfl⟩ := v4_of n hn
  obtain ⟨a', b', c', d', ha', hb', hc', hd', rfl⟩ := v4_of m hm
  rw [w4_v4 ha hb hc hd, w4_v4 ha' hb' hc' hd']
  have e : (v4 a b c d = v4 a' b' c' d') ↔ (a = a' ∧ b = b' ∧ c = c' ∧ d = d') := by unfold v4; omega
  rw [Bool.eq_iff_iff, decide_eq_true_iff, e]
  simp [eqVals, intEq]
  omega
theorem eqVals_cells {u v : Au} (hu : u.ok) (hv : v.ok) : eqVals u.cells v.cells = true ↔ u = v := by
  obtain ⟨ch, a, no, pa, r, s⟩ := u
  obtain ⟨ch', a', no', pa', r', s'⟩ := v
  obtain ⟨h1, h2, h3, h4, h5, h6⟩ := hu
  obtain ⟨g1, g2, g3, g4, g5, g6⟩ := hv
  simp only [Au.cells]
  simp only at h1 h2 h3 h4 h5 h6 g1 g2 g3 g4 g5 g6
  rw [eqVals_append (show (w4 ch).length = (w4 ch').length from rfl), eqVals_append (by simp [u8s]; rw [h2, g2])]
  simp only [eqVals, intEq]
  rw [eqVals_append (show (w4 r).length = (w4 r').length from rfl), eqV4 h1 g1, eqVals_u8s, eqV4 h5 g5, eqV4 h6 g6]
  simp
  intro _ _
  omega

theorem intsW4 (n : Nat) : ints .u64 (w4 n) := by
  intro w hw
  simp only [w4, List.mem_cons, List.not_mem_nil, or_false] at hw
  rcases hw with rfl | rfl | rfl | rfl <;> exact ⟨_, rfl⟩

/-- A transaction. -/
structure Tx where
  ty : Int
  ch : Nat
  no : Nat
  pr : Nat
  ti : Nat
  ca : Nat
  ga : Nat
  cr : Bool
  to : List Int
  va : Nat
  d : List Int
  sd : List (List PS)
  ac : List Ent
  sac : List (List PS)
  bc : Nat
  bl : List (List Int)
  sbl : List (List PS)
  au : List Au
  sau : List (List PS)
  v : Nat
  r : Nat
  s : Nat

def b8' (x : Int) : List PS := [.c (.v (.int .u8 x))]
/-- Its cells, the lists' rows given. -/
def txRow (ty : Int) (ch no : Int) (pr ti ca : List Value) (ga : Int) (cr : Bool) (to va : List Value) (D sd A sa : List (List PS)) (bc : List Value) (B sb U su : List (List PS)) (v r s : List Value) : List PS :=
  [.c (.v (.int .i64 ty)), .c (.v (.int .u64 ch)), .c (.v (.int .u64 no)), .r 4 pr, .r 4 ti, .r 4 ca, .c (.v (.int .u64 ga)), .c (.v (.bool cr)), .r 20 to, .r 4 va, .c (.sl D sd), .c (.sl A sa), .r 4 bc, .c (.sl B sb), .c (.sl U su), .r 4 v, .r 4 r, .r 4 s]
def Tx.row (t : Tx) : List PS :=
  txRow t.ty t.ch t.no (w4 t.pr) (w4 t.ti) (w4 t.ca) t.ga t.cr (u8s t.to) (w4 t.va) (t.d.map b8') t.sd (t.ac.map Ent.row) t.sac (w4 t.bc) (t.bl.map key) t.sbl (t.au.map Au.row) t.sau (w4 t.v) (w4 t.r) (w4 t.s)
def M64 : Nat := 18446744073709551616
structure Tx.ok (t : Tx) : Prop where
  ty : -9223372036854775808 ≤ t.ty ∧ t.ty ≤ 9223372036854775807
  ch : t.ch < 18446744073709551616
  no : t.no < 18446744073709551616
  pr : t.pr < M256
  ti : t.ti < M256
  ca : t.ca < M256
  ga : t.ga < 18446744073709551616
  to : t.to.length = 20
  va : t.va < M256
  ac : ∀ e ∈ t.ac, e.a.length = 20 ∧ bytesOk e.a ∧ ∀ w ∈ e.ks, w.length = 32 ∧ bytesOk w
  bc : t.bc < M256
  bl : ∀ w ∈ t.bl, w.length = 32 ∧ bytesOk w
  au : ∀ u ∈ t.au, u.ok ∧ bytesOk u.a
  v : t.v < M256
  r : t.r < M256
  s : t.s < M256
  tob : bytesOk t.to
  db : bytesOk t.d
structure Tx.small (t : Tx) : Prop where
  d : t.d.length ≤ 2 ^ 36
  ac : t.ac.length ≤ 2 ^ 36
  ks : ∀ e ∈ t.ac, e.ks.length ≤ 2 ^ 36
  bl : t.bl.length ≤ 2 ^ 36
  au : t.au.length ≤ 2 ^ 36

/-- An entry without the room behind its keys. -/
def Ent.cor (e : Ent) : Ent := ⟨e.a, e.ks, []⟩
/-- What a transaction says, without the room behind its lists. -/
def Tx.core (t : Tx) : Tx := { t with sd := [], ac := t.ac.map Ent.cor, sac := [], sbl := [], sau := [] }

end Go.Eng
