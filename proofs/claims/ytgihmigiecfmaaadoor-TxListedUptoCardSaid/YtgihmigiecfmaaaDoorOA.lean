import Derived.Test.YtgihmigiecfmaaaDoorUA
import Derived.Test.YtgihmigiecfmaaaDoorEngR
import Derived.Test.YtgihmigiecfmaaaDoorRows
import Derived.WalkKit
import Derived.ProofKit
import Derived.OpenShut
import Derived.JoinedCond
import Derived.Below
import Derived.Carry
import Derived.Lib.SmallJoins
import Derived.Test.YtgihmigiecfmaaaDoorFA
namespace Go.Proofs.YtgihmigiecfmaaaDoor.opensTx
open Go.ChangeShapes Go.WideShapes Go.ChangeAt Go.RowKit Go.Eng
theorem own : ownKnob Tryd.prog.godebug = none := by kernel_rfl
theorem laidOut : laidOutB Tryd.prog = true := by kernel_rfl
theorem bulk_pos1 {H : Type} (x : DataW H) : 1 ≤ Rows.uptoBulk x := by
 cases x with
 | lit l => cases l <;> simp [Rows.uptoBulk]
 | _ => simp [Rows.uptoBulk]
theorem bulk_len {H : Type} (l : List (DataW H)) : l.length ≤ Rows.uptoBulkAll l := by
 induction l with
 | nil => simp [Rows.uptoBulkAll]
 | cons x r ih =>
  have h1 := bulk_pos1 x
  simp only [Rows.uptoBulkAll, List.length_cons]
  omega
theorem bulk_part {H : Type} {d : DataW H} {l : List (DataW H)} (h : d ∈ l) : Rows.uptoBulk d ≤ Rows.uptoBulkAll l := by
 induction l with
 | nil => cases h
 | cons x r ih =>
  simp only [Rows.uptoBulkAll]
  cases List.mem_cons.1 h with
  | inl e => subst e; omega
  | inr e => have := ih e; omega
theorem wfI {x : Int} (h : (Lit.int .i64 x).wf = true) : -9223372036854775808 ≤ x ∧ x ≤ 9223372036854775807 := by
 have h2 : -9223372036854775808 ≤ x ∧ x ≤ 9223372036854775807 := by simpa [Lit.wf, IntKind.min, IntKind.max, IntKind.signed, IntKind.bits] using h
 exact h2
theorem wfU {x : Int} (h : (Lit.int .u64 x).wf = true) : ∃ m : Nat, x = (m : Int) ∧ m < 18446744073709551616 := by
 have h2 : 0 ≤ x ∧ x ≤ 18446744073709551615 := by simpa [Lit.wf, IntKind.min, IntKind.max, IntKind.signed, IntKind.bits] using h
 exact ⟨x.toNat, by omega, by omega⟩
theorem wfB {x : Int} (h : (Lit.int .u8 x).wf = true) : 0 ≤ x ∧ x < 256 := by
 have h2 : 0 ≤ x ∧ x ≤ 255 := by simpa [Lit.wf, IntKind.min, IntKind.max, IntKind.signed, IntKind.bits] using h
 omega
theorem four (bs : List Int) (hl : bs.length = 4) (hw : ∀ b ∈ bs, (Lit.int .u64 b).wf = true) : ∃ n : Nat, n < M256 ∧ bs.map (Value.int .u64) = w4 n := by
 match bs, hl with
 | [a, b, c, d], _ =>
  obtain ⟨a', ha, la⟩ := wfU (hw a (by simp))
  obtain ⟨b', hb, lb⟩ := wfU (hw b (by simp))
  obtain ⟨c', hc, lc⟩ := wfU (hw c (by simp))
  obtain ⟨d', hd, ld⟩ := wfU (hw d (by simp))
  subst ha hb hc hd
  exact ⟨v4 a' b' c' d', by unfold v4 M256; omega, (w4_v4 la lb lc ld).symm⟩
theorem one8 (l : List Int) : ∀ u ∈ u8s l, u.oneCell' = true := fun u hu => by
 simp only [u8s, List.mem_map] at hu; obtain ⟨n, _, rfl⟩ := hu; rfl
theorem one4 (n : Nat) : ∀ u ∈ w4 n, u.oneCell' = true := fun u hu => by
 obtain ⟨z, rfl, _⟩ := w4_wf n u hu; rfl
theorem cell_of {l : List Value} {n : Nat} (h : n < l.length) : (l.drop n).take 1 = [l[n]] := by
 rw [List.drop_eq_getElem_cons h]; rfl
theorem rep_r {m : Mem} {cs us : List Value} {rest : List PS} {a n : Nat} (e : (cs.drop a).take n = us) (hl : us.length = n) (ho : ∀ u ∈ us, u.oneCell' = true) (h : RepL m rest (cs.drop (a + n))) : RepL m (.r n us :: rest) (cs.drop a) :=
 ⟨hl, ho, cs.drop (a + n), by rw [← e, ← List.drop_drop, List.take_append_drop], h⟩
theorem rep_c {m : Mem} {cs : List Value} {w : Value} {x : PV} {rest : List PS} {a : Nat} (e : (cs.drop a).take 1 = [w]) (hv : RepV m x w) (h : RepL m rest (cs.drop (a + 1))) : RepL m (.c x :: rest) (cs.drop a) :=
 ⟨w, cs.drop (a + 1), by rw [← List.singleton_append, ← e, ← List.drop_drop, List.take_append_drop], hv, h⟩
theorem rep_vi {m : Mem} {k : IntKind} {n : Int} : RepV m (.v (.int k n)) (.int k n) := by rw [RepV]; exact ⟨rfl, rfl⟩
theorem rep_vb {m : Mem} {b : Bool} : RepV m (.v (.bool b)) (.bool b) := by rw [RepV]; exact ⟨rfl, rfl⟩
section
variable {H : Type} {enc : TypeId × Value → H} {W : World}
theorem open_u8 {fuel : Nat} {cs : List Value} {d : DataW H} {p : List MemPlace} (_hl : cs.length = 1) (h : Rd enc Tryd.prog W fuel 5 cs d p) : ∃ b : Int, RepL (memOf W) (b8' b) cs ∧ (0 ≤ b ∧ b < 256) := by
 obtain ⟨b, rfl, _, hw⟩ := DataW.trod_int Tryd.underlying5 h
 exact ⟨b, ⟨_, [], rfl, rep_vi, rfl⟩, wfB hw⟩
theorem open_key {fuel : Nat} {cs : List Value} {d : DataW H} {p : List MemPlace} (hl : cs.length = 32) (h : Rd enc Tryd.prog W fuel 45 cs d p) : ∃ k : List Int, RepL (memOf W) (key k) cs ∧ (k.length = 32 ∧ bytesOk k) := by
 obtain ⟨bs, rfl, hbl, hw⟩ := open_arr Tryd.underlying45 Tryd.underlying5 (by kernel_rfl) hl h
 exact ⟨bs, ⟨hl, one8 bs, [], by simp [u8s], rfl⟩, hbl, fun b hb => wfB (hw b hb)⟩
def entOk {H : Type} (e : Ent) (d : DataW H) : Prop := (e.a.length = 20 ∧ bytesOk e.a ∧ ∀ w ∈ e.ks, w.length = 32 ∧ bytesOk w) ∧ e.ks.length + 2 ≤ Rows.uptoBulk d
theorem open_ent {fuel : Nat} {cs : List Value} {d : DataW H} {p : List MemPlace} (hl : cs.length = 21) (h : Rd enc Tryd.prog W fuel 43 cs d p) : ∃ e : Ent, RepL (memOf W) e.row cs ∧ entOk e d := by
 obtain ⟨y0, y1, n, hx, _, h0, h1⟩ := trod_struct2 Tryd.underlying43 h
 simp only [Prod.mk.injEq] at hx
 obtain ⟨rfl, _⟩ := hx
 have c24 : Tryd.prog.cellsOf 26 = 20 := by kernel_rfl
 have c72 : Tryd.prog.cellsOf 29 = 1 := by kernel_rfl
 simp only [c24, c72] at h0 h1
 obtain ⟨bs, hbs, hbl, hbw⟩ := open_arr (d := y0.1) (p := y0.2) Tryd.underlying26 Tryd.underlying5 (by kernel_rfl) (by simp [hl]) h0
 have hv := cell_of (l := cs) (n := 20) (by omega)
 rw [hv] at h1
 obtain ⟨ls, ss, hr, hd⟩ := open_sl (sz := 32) (row := key) (R := fun k _ => k.length = 32 ∧ bytesOk k) (d := y1.1) (p := y1.2) Tryd.underlying29 (by kernel_rfl) (by omega) (fun _ => rfl) (fun fuel cs d p hl h => open_key hl h) h1
 refine ⟨⟨bs, ls, ss.map key⟩, ?_, ⟨hbl, fun b hb => wfB (hbw b hb), ?_⟩, ?_⟩
 ·show RepL _ _ (cs.drop 0)
  refine rep_r hbs (by simp [u8s, hbl]) (one8 bs) (rep_c hv hr ?_)
  rw [List.drop_of_length_le (by omega)]; rfl
 ·rcases hd with ⟨_, rfl, _⟩ | ⟨els, rest, _, _, _, hR⟩
  ·intro w hw; cases hw
  ·intro w hw
   obtain ⟨i, hi, rfl⟩ := List.getElem_of_mem hw
   obtain ⟨_, _, h⟩ := hR i _ (List.getElem?_eq_getElem hi)
   exact h
 ·simp only [Rows.uptoBulk, Rows.uptoBulkAll]
  have h0' := bulk_pos1 y0.1
  rcases hd with ⟨hd, rfl, _⟩ | ⟨els, rest, hd, hel, _, _⟩
  ·have := bulk_pos1 y1.1; simp; omega
  ·rw [hd]
   have := bulk_len els
   simp only [Rows.uptoBulk]
   omega
theorem open_au {fuel : Nat} {cs : List Value} {d : DataW H} {p : List MemPlace} (hl : cs.length = 34) (h : Rd enc Tryd.prog W fuel 65 cs d p) : ∃ u : Au, RepL (memOf W) u.row cs ∧ u.ok ∧ bytesOk u.a := by
 obtain ⟨xs, n, _, _, _, hxl, hf⟩ := DataW.trod_struct Tryd.underlying65 h
 have hxl : xs.length = 6 := hxl
 have get : ∀ i, i < 6 → ∃ y, xs[i]? = some y := fun i hi => ⟨_, List.getElem?_eq_getElem (by omega)⟩
 have c4 : Tryd.prog.cellsOf 24 = 4 := by kernel_rfl
 have c20 : Tryd.prog.cellsOf 26 = 20 := by kernel_rfl
 have c1 : Tryd.prog.cellsOf 22 = 1 := by kernel_rfl
 obtain ⟨y0, g0⟩ := get 0 (by omega)
 have h0 : DataW.trod enc Tryd.prog W 0 (fun _ => true) true n 24 ((cs.drop 0).take (Tryd.prog.cellsOf 24)) = some y0 := (hf 0 _ rfl).trans g0
 obtain ⟨y1, g1⟩ := get 1 (by omega)
 have h1 : DataW.trod enc Tryd.prog W 0 (fun _ => true) true n 26 ((cs.drop 4).take (Tryd.prog.cellsOf 26)) = some y1 := (hf 1 _ rfl).trans g1
 obtain ⟨y2, g2⟩ := get 2 (by omega)
 have h2 : DataW.trod enc Tryd.prog W 0 (fun _ => true) true n 22 ((cs.drop 24).take (Tryd.prog.cellsOf 22)) = some y2 := (hf 2 _ rfl).trans g2
 obtain ⟨y3, g3⟩ := get 3 (by omega)
 have h3 : DataW.trod enc Tryd.prog W 0 (fun _ => true) true n 22 ((cs.drop 25).take (Tryd.prog.cellsOf 22)) = some y3 := (hf 3 _ rfl).trans g3
 obtain ⟨y4, g4⟩ := get 4 (by omega)
 have h4 : DataW.trod enc Tryd.prog W 0 (fun _ => true) true n 24 ((cs.drop 26).take (Tryd.prog.cellsOf 24)) = some y4 := (hf 4 _ rfl).trans g4
 obtain ⟨y5, g5⟩ := get 5 (by omega)
 have h5 : DataW.trod enc Tryd.prog W 0 (fun _ => true) true n 24 ((cs.drop 30).take (Tryd.prog.cellsOf 24)) = some y5 := (hf 5 _ rfl).trans g5
 simp only [c4, c20, c1] at h0 h1 h2 h3 h4 h5
 obtain ⟨b0, e0, l0, w0⟩ := open_arr (d := y0.1) (p := y0.2) Tryd.underlying24 Tryd.underlying22 (by kernel_rfl) (by simp [hl]) h0
 obtain ⟨n0, hn0, q0⟩ := four b0 l0 w0
 rw [q0] at e0
 obtain ⟨b1, e1, l1, w1⟩ := open_arr (d := y1.1) (p := y1.2) Tryd.underlying26 Tryd.underlying5 (by kernel_rfl) (by simp [hl]) h1
 obtain ⟨b2, e2, _, w2⟩ := DataW.trod_int Tryd.underlying22 h2
 obtain ⟨n2, rfl, hn2⟩ := wfU w2
 obtain ⟨b3, e3, _, w3⟩ := DataW.trod_int Tryd.underlying22 h3
 obtain ⟨n3, rfl, hn3⟩ := wfU w3
 obtain ⟨b4, e4, l4, w4⟩ := open_arr (d := y4.1) (p := y4.2) Tryd.underlying24 Tryd.underlying22 (by kernel_rfl) (by simp [hl]) h4
 obtain ⟨n4, hn4, q4⟩ := four b4 l4 w4
 rw [q4] at e4
 obtain ⟨b5, e5, l5, w5⟩ := open_arr (d := y5.1) (p := y5.2) Tryd.underlying24 Tryd.underlying22 (by kernel_rfl) (by simp [hl]) h5
 obtain ⟨n5, hn5, q5⟩ := four b5 l5 w5
 rw [q5] at e5
 refine ⟨⟨n0, b1, n2, n3, n4, n5⟩, ?_, ⟨hn0, l1, hn2, hn3, hn4, hn5⟩, fun b hb => wfB (w1 b hb)⟩
 show RepL _ _ (cs.drop 0)
 refine rep_r e0 rfl (one4 _) (rep_r e1 (by simp [u8s, l1]) (one8 _) (rep_c e2 rep_vi (rep_c e3 rep_vi (rep_r e4 rfl (one4 _) (rep_r e5 rfl (one4 _) ?_)))))
 rw [List.drop_of_length_le (by omega)]; rfl
theorem len_of {α : Type} {R : α → DataW H → Prop} {d : DataW H} {zs ss : List α} {K : Nat} (hd : (d = .nil ∧ zs = [] ∧ ss = []) ∨ ∃ els rest : List (DataW H), d = .slice els rest ∧ els.length = zs.length ∧ rest.length = ss.length ∧ ∀ (i : Nat) (a : α), zs[i]? = some a → ∃ x, els[i]? = some x ∧ R a x) (hk : Rows.uptoBulk d ≤ K) : zs.length ≤ K := by
 rcases hd with ⟨_, rfl, _⟩ | ⟨els, rest, rfl, hel, _, _⟩
 ·simp
 ·simp only [Rows.uptoBulk] at hk
  have := bulk_len els
  omega
theorem all_of {α : Type} {R : α → DataW H → Prop} {d : DataW H} {zs ss : List α} {K : Nat} (hd : (d = .nil ∧ zs = [] ∧ ss = []) ∨ ∃ els rest : List (DataW H), d = .slice els rest ∧ els.length = zs.length ∧ rest.length = ss.length ∧ ∀ (i : Nat) (a : α), zs[i]? = some a → ∃ x, els[i]? = some x ∧ R a x) (hk : Rows.uptoBulk d ≤ K) : ∀ a ∈ zs, ∃ x, R a x ∧ Rows.uptoBulk x ≤ K := by
 rcases hd with ⟨_, rfl, _⟩ | ⟨els, rest, rfl, hel, _, hR⟩
 ·intro a ha; cases ha
 ·intro a ha
  obtain ⟨i, hi, rfl⟩ := List.getElem_of_mem ha
  obtain ⟨x, hx, h⟩ := hR i _ (List.getElem?_eq_getElem hi)
  simp only [Rows.uptoBulk] at hk
  have := bulk_part (List.mem_of_getElem? hx)
  exact ⟨x, h, by omega⟩
theorem ents_of {d : DataW H} {zs ss : List Ent} {K : Nat} (hd : (d = .nil ∧ zs = [] ∧ ss = []) ∨ ∃ els rest : List (DataW H), d = .slice els rest ∧ els.length = zs.length ∧ rest.length = ss.length ∧ ∀ (i : Nat) (a : Ent), zs[i]? = some a → ∃ x, els[i]? = some x ∧ entOk a x) (hk : Rows.uptoBulk d ≤ K) : ∃ els : List (DataW H), els.length = zs.length ∧ Rows.uptoBulkAll els ≤ K ∧ ∀ (i : Nat) (a : Ent), zs[i]? = some a → ∃ x, els[i]? = some x ∧ a.ks.length + 2 ≤ Rows.uptoBulk x := by
 rcases hd with ⟨_, rfl, _⟩ | ⟨els, rest, rfl, hel, _, hR⟩
 ·exact ⟨[], rfl, by simp [Rows.uptoBulkAll], fun i a h => by simp at h⟩
 ·simp only [Rows.uptoBulk] at hk
  refine ⟨els, hel, by omega, fun i a h => ?_⟩
  obtain ⟨x, hx, h2⟩ := hR i a h
  exact ⟨x, hx, h2.2⟩
theorem open_tx {fuel : Nat} {cs : List Value} {d : DataW H} {p : List MemPlace} (hl : cs.length = 61) (h : Rd enc Tryd.prog W fuel 32 cs d p) (hk : Rows.uptoBulk d ≤ 1048576) : ∃ t : Tx, RepL (memOf W) t.row cs ∧ t.ok ∧ t.small ∧ t.d.length ≤ 1048576 ∧ t.ac.length ≤ 1048576 ∧ (∀ e ∈ t.ac, e.ks.length ≤ 1048576) ∧ t.bl.length ≤ 1048576 ∧ t.au.length ≤ 1048576 ∧ ∃ els : List (DataW H), els.length = t.ac.length ∧ Rows.uptoBulkAll els ≤ 1048576 ∧ ∀ (i : Nat) (a : Ent), t.ac[i]? = some a → ∃ x, els[i]? = some x ∧ a.ks.length + 2 ≤ Rows.uptoBulk x := by
 obtain ⟨xs, n, _, hx, _, hxl, hf⟩ := DataW.trod_struct Tryd.underlying32 h
 simp only [Prod.mk.injEq] at hx
 obtain ⟨hdx, _⟩ := hx
 have hxl : xs.length = 18 := hxl
 have get : ∀ i, i < 18 → ∃ y, xs[i]? = some y := fun i hi => ⟨_, List.getElem?_eq_getElem (by omega)⟩
 have hbk : ∀ (i : Nat) y, xs[i]? = some y → Rows.uptoBulk y.1 ≤ 1048576 := fun i y hy => by
  rw [hdx] at hk
  simp only [Rows.uptoBulk] at hk
  have := bulk_part (List.mem_map.2 ⟨y, List.mem_of_getElem? hy, rfl⟩ : y.1 ∈ xs.map (·.1))
  omega
 have c4 : Tryd.prog.cellsOf 24 = 4 := by kernel_rfl
 have c20 : Tryd.prog.cellsOf 26 = 20 := by kernel_rfl
 have c1 : Tryd.prog.cellsOf 22 = 1 := by kernel_rfl
 have ci : Tryd.prog.cellsOf 3 = 1 := by kernel_rfl
 have cb : Tryd.prog.cellsOf 4 = 1 := by kernel_rfl
 have cd : Tryd.prog.cellsOf 27 = 1 := by kernel_rfl
 have ca : Tryd.prog.cellsOf 28 = 1 := by kernel_rfl
 have ch : Tryd.prog.cellsOf 29 = 1 := by kernel_rfl
 have cu : Tryd.prog.cellsOf 30 = 1 := by kernel_rfl
 obtain ⟨y0, g0⟩ := get 0 (by omega)
 have h0 : DataW.trod enc Tryd.prog W 0 (fun _ => true) true n 3 ((cs.drop 0).take (Tryd.prog.cellsOf 3)) = some y0 := (hf 0 _ rfl).trans g0
 obtain ⟨y1, g1⟩ := get 1 (by omega)
 have h1 : DataW.trod enc Tryd.prog W 0 (fun _ => true) true n 22 ((cs.drop 1).take (Tryd.prog.cellsOf 22)) = some y1 := (hf 1 _ rfl).trans g1
 obtain ⟨y2, g2⟩ := get 2 (by omega)
 have h2 : DataW.trod enc Tryd.prog W 0 (fun _ => true) true n 22 ((cs.drop 2).take (Tryd.prog.cellsOf 22)) = some y2 := (hf 2 _ rfl).trans g2
 obtain ⟨y3, g3⟩ := get 3 (by omega)
 have h3 : DataW.trod enc Tryd.prog W 0 (fun _ => true) true n 24 ((cs.drop 3).take (Tryd.prog.cellsOf 24)) = some y3 := (hf 3 _ rfl).trans g3
 obtain ⟨y4, g4⟩ := get 4 (by omega)
 have h4 : DataW.trod enc Tryd.prog W 0 (fun _ => true) true n 24 ((cs.drop 7).take (Tryd.prog.cellsOf 24)) = some y4 := (hf 4 _ rfl).trans g4
 obtain ⟨y5, g5⟩ := get 5 (by omega)
 have h5 : DataW.trod enc Tryd.prog W 0 (fun _ => true) true n 24 ((cs.drop 11).take (Tryd.prog.cellsOf 24)) = some y5 := (hf 5 _ rfl).trans g5
 obtain ⟨y6, g6⟩ := get 6 (by omega)
 have h6 : DataW.trod enc Tryd.prog W 0 (fun _ => true) true n 22 ((cs.drop 15).take (Tryd.prog.cellsOf 22)) = some y6 := (hf 6 _ rfl).trans g6
 obtain ⟨y7, g7⟩ := get 7 (by omega)
 have h7 : DataW.trod enc Tryd.prog W 0 (fun _ => true) true n 4 ((cs.drop 16).take (Tryd.prog.cellsOf 4)) = some y7 := (hf 7 _ rfl).trans g7
 obtain ⟨y8, g8⟩ := get 8 (by omega)
 have h8 : DataW.trod enc Tryd.prog W 0 (fun _ => true) true n 26 ((cs.drop 17).take (Tryd.prog.cellsOf 26)) = some y8 := (hf 8 _ rfl).trans g8
 obtain ⟨y9, g9⟩ := get 9 (by omega)
 have h9 : DataW.trod enc Tryd.prog W 0 (fun _ => true) true n 24 ((cs.drop 37).take (Tryd.prog.cellsOf 24)) = some y9 := (hf 9 _ rfl).trans g9
 obtain ⟨y10, g10⟩ := get 10 (by omega)
 have h10 : DataW.trod enc Tryd.prog W 0 (fun _ => true) true n 27 ((cs.drop 41).take (Tryd.prog.cellsOf 27)) = some y10 := (hf 10 _ rfl).trans g10
 obtain ⟨y11, g11⟩ := get 11 (by omega)
 have h11 : DataW.trod enc Tryd.prog W 0 (fun _ => true) true n 28 ((cs.drop 42).take (Tryd.prog.cellsOf 28)) = some y11 := (hf 11 _ rfl).trans g11
 obtain ⟨y12, g12⟩ := get 12 (by omega)
 have h12 : DataW.trod enc Tryd.prog W 0 (fun _ => true) true n 24 ((cs.drop 43).take (Tryd.prog.cellsOf 24)) = some y12 := (hf 12 _ rfl).trans g12
 obtain ⟨y13, g13⟩ := get 13 (by omega)
 have h13 : DataW.trod enc Tryd.prog W 0 (fun _ => true) true n 29 ((cs.drop 47).take (Tryd.prog.cellsOf 29)) = some y13 := (hf 13 _ rfl).trans g13
 obtain ⟨y14, g14⟩ := get 14 (by omega)
 have h14 : DataW.trod enc Tryd.prog W 0 (fun _ => true) true n 30 ((cs.drop 48).take (Tryd.prog.cellsOf 30)) = some y14 := (hf 14 _ rfl).trans g14
 obtain ⟨y15, g15⟩ := get 15 (by omega)
 have h15 : DataW.trod enc Tryd.prog W 0 (fun _ => true) true n 24 ((cs.drop 49).take (Tryd.prog.cellsOf 24)) = some y15 := (hf 15 _ rfl).trans g15
 obtain ⟨y16, g16⟩ := get 16 (by omega)
 have h16 : DataW.trod enc Tryd.prog W 0 (fun _ => true) true n 24 ((cs.drop 53).take (Tryd.prog.cellsOf 24)) = some y16 := (hf 16 _ rfl).trans g16
 obtain ⟨y17, g17⟩ := get 17 (by omega)
 have h17 : DataW.trod enc Tryd.prog W 0 (fun _ => true) true n 24 ((cs.drop 57).take (Tryd.prog.cellsOf 24)) = some y17 := (hf 17 _ rfl).trans g17
 simp only [c4, c20, c1, ci, cb, cd, ca, ch, cu] at h0 h1 h2 h3 h4 h5 h6 h7 h8 h9 h10 h11 h12 h13 h14 h15 h16 h17
 obtain ⟨b0, e0, _, w0⟩ := DataW.trod_int Tryd.underlying3 h0
 obtain ⟨b1, e1, _, w1⟩ := DataW.trod_int Tryd.underlying22 h1
 obtain ⟨n1, rfl, hn1⟩ := wfU w1
 obtain ⟨b2, e2, _, w2⟩ := DataW.trod_int Tryd.underlying22 h2
 obtain ⟨n2, rfl, hn2⟩ := wfU w2
 obtain ⟨b3, e3, l3, w3⟩ := open_arr (d := y3.1) (p := y3.2) Tryd.underlying24 Tryd.underlying22 (by kernel_rfl) (by simp [hl]) h3
 obtain ⟨n3, hn3, q3⟩ := four b3 l3 w3
 rw [q3] at e3
 obtain ⟨b4, e4, l4, w4⟩ := open_arr (d := y4.1) (p := y4.2) Tryd.underlying24 Tryd.underlying22 (by kernel_rfl) (by simp [hl]) h4
 obtain ⟨n4, hn4, q4⟩ := four b4 l4 w4
 rw [q4] at e4
 obtain ⟨b5, e5, l5, w5⟩ := open_arr (d := y5.1) (p := y5.2) Tryd.underlying24 Tryd.underlying22 (by kernel_rfl) (by simp [hl]) h5
 obtain ⟨n5, hn5, q5⟩ := four b5 l5 w5
 rw [q5] at e5
 obtain ⟨b6, e6, _, w6⟩ := DataW.trod_int Tryd.underlying22 h6
 obtain ⟨n6, rfl, hn6⟩ := wfU w6
 obtain ⟨b7, e7, _⟩ := DataW.trod_bool Tryd.underlying4 h7
 obtain ⟨b8, e8, l8, w8⟩ := open_arr (d := y8.1) (p := y8.2) Tryd.underlying26 Tryd.underlying5 (by kernel_rfl) (by simp [hl]) h8
 obtain ⟨b9, e9, l9, w9⟩ := open_arr (d := y9.1) (p := y9.2) Tryd.underlying24 Tryd.underlying22 (by kernel_rfl) (by simp [hl]) h9
 obtain ⟨n9, hn9, q9⟩ := four b9 l9 w9
 rw [q9] at e9
 have v10 := cell_of (l := cs) (n := 41) (by omega)
 rw [v10] at h10
 obtain ⟨ls10, ss10, r10, d10⟩ := open_sl (sz := 1) (row := b8') (R := (fun b _ => 0 ≤ b ∧ b < 256)) (d := y10.1) (p := y10.2) Tryd.underlying27 (by kernel_rfl) (by omega) (fun _ => rfl) (fun fuel cs d p hl h => open_u8 hl h) h10
 have v11 := cell_of (l := cs) (n := 42) (by omega)
 rw [v11] at h11
 obtain ⟨ls11, ss11, r11, d11⟩ := open_sl (sz := 21) (row := Ent.row) (R := entOk) (d := y11.1) (p := y11.2) Tryd.underlying28 (by kernel_rfl) (by omega) (fun _ => rfl) (fun fuel cs d p hl h => open_ent hl h) h11
 obtain ⟨b12, e12, l12, w12⟩ := open_arr (d := y12.1) (p := y12.2) Tryd.underlying24 Tryd.underlying22 (by kernel_rfl) (by simp [hl]) h12
 obtain ⟨n12, hn12, q12⟩ := four b12 l12 w12
 rw [q12] at e12
 have v13 := cell_of (l := cs) (n := 47) (by omega)
 rw [v13] at h13
 obtain ⟨ls13, ss13, r13, d13⟩ := open_sl (sz := 32) (row := key) (R := (fun k _ => k.length = 32 ∧ bytesOk k)) (d := y13.1) (p := y13.2) Tryd.underlying29 (by kernel_rfl) (by omega) (fun _ => rfl) (fun fuel cs d p hl h => open_key hl h) h13
 have v14 := cell_of (l := cs) (n := 48) (by omega)
 rw [v14] at h14
 obtain ⟨ls14, ss14, r14, d14⟩ := open_sl (sz := 34) (row := Au.row) (R := (fun u _ => u.ok ∧ bytesOk u.a)) (d := y14.1) (p := y14.2) Tryd.underlying30 (by kernel_rfl) (by omega) (fun _ => rfl) (fun fuel cs d p hl h => open_au hl h) h14
 obtain ⟨b15, e15, l15, w15⟩ := open_arr (d := y15.1) (p := y15.2) Tryd.underlying24 Tryd.underlying22 (by kernel_rfl) (by simp [hl]) h15
 obtain ⟨n15, hn15, q15⟩ := four b15 l15 w15
 rw [q15] at e15
 obtain ⟨b16, e16, l16, w16⟩ := open_arr (d := y16.1) (p := y16.2) Tryd.underlying24 Tryd.underlying22 (by kernel_rfl) (by simp [hl]) h16
 obtain ⟨n16, hn16, q16⟩ := four b16 l16 w16
 rw [q16] at e16
 obtain ⟨b17, e17, l17, w17⟩ := open_arr (d := y17.1) (p := y17.2) Tryd.underlying24 Tryd.underlying22 (by kernel_rfl) (by simp [hl]) h17
 obtain ⟨n17, hn17, q17⟩ := four b17 l17 w17
 rw [q17] at e17
 have q10 := len_of d10 (hbk 10 y10 g10)
 have q11 := len_of d11 (hbk 11 y11 g11)
 have q13 := len_of d13 (hbk 13 y13 g13)
 have q14 := len_of d14 (hbk 14 y14 g14)
 have p11 := all_of d11 (hbk 11 y11 g11)
 have k11 : ∀ e ∈ ls11, e.ks.length ≤ 1048576 := fun e he => by
  obtain ⟨x, hx, hb⟩ := p11 e he
  have := hx.2
  omega
 refine ⟨⟨b0, n1, n2, n3, n4, n5, n6, b7, b8, n9, ls10, ss10.map b8', ls11, ss11.map Ent.row, n12, ls13, ss13.map key, ls14, ss14.map Au.row, n15, n16, n17⟩, ?_, ?_, ⟨?_, ?_, ?_, ?_, ?_⟩, q10, q11, k11, q13, q14, ents_of d11 (hbk 11 y11 g11)⟩
 ·show RepL _ _ (cs.drop 0)
  refine rep_c e0 rep_vi (rep_c e1 rep_vi (rep_c e2 rep_vi (rep_r e3 rfl (one4 _) (rep_r e4 rfl (one4 _) (rep_r e5 rfl (one4 _) (rep_c e6 rep_vi (rep_c e7 rep_vb (rep_r e8 (by simp [u8s, l8]) (one8 _) (rep_r e9 rfl (one4 _) (rep_c v10 r10 (rep_c v11 r11 (rep_r e12 rfl (one4 _) (rep_c v13 r13 (rep_c v14 r14 (rep_r e15 rfl (one4 _) (rep_r e16 rfl (one4 _) (rep_r e17 rfl (one4 _) ?_)))))))))))))))))
  rw [List.drop_of_length_le (by omega)]; rfl
 ·refine ⟨wfI w0, hn1, hn2, hn3, hn4, hn5, hn6, l8, hn9, fun e he => ?_, hn12, fun w hw => ?_, fun u hu => ?_, hn15, hn16, hn17, fun b hb => wfB (w8 b hb), fun b hb => ?_⟩
  ·obtain ⟨x, hx, _⟩ := p11 e he; exact hx.1
  ·obtain ⟨x, hx, _⟩ := all_of d13 (hbk 13 y13 g13) w hw; exact hx
  ·obtain ⟨x, hx, _⟩ := all_of d14 (hbk 14 y14 g14) u hu; exact hx
  ·obtain ⟨x, hx, _⟩ := all_of d10 (hbk 10 y10 g10) b hb; exact hx
 ·exact Nat.le_trans q10 (by decide)
 ·exact Nat.le_trans q11 (by decide)
 ·exact fun e he => Nat.le_trans (k11 e he) (by decide)
 ·exact Nat.le_trans q13 (by decide)
 ·exact Nat.le_trans q14 (by decide)
end
end Go.Proofs.YtgihmigiecfmaaaDoor.opensTx
namespace Go.Proofs.YtgihmigiecfmaaaDoor.opensTx
open Go.ChangeShapes Go.WideShapes Go.ChangeAt Go.RowKit Go.Eng
theorem es_sum {H : Type} : ∀ (zs : List Ent) (els : List (DataW H)), els.length = zs.length → (∀ e ∈ zs, e.a.length = 20 ∧ ∀ w ∈ e.ks, w.length = 32) → (∀ (i : Nat) (a : Ent), zs[i]? = some a → ∃ x, els[i]? = some x ∧ a.ks.length + 2 ≤ Rows.uptoBulk x) → bulks (esIts zs) ≤ 33 * Rows.uptoBulkAll els
 | [], _, _, _, _ => Nat.zero_le _
 | _ :: _, [], h, _, _ => by cases h
 | e :: zs, x :: els, hl, ho, hR => by
  have h1 := es_sum zs els (by simpa using hl) (fun a ha => ho a (by simp [ha])) fun i a ha => hR (i + 1) a (by simpa using ha)
  obtain ⟨x', hx', h2⟩ := hR 0 e rfl
  cases hx'
  obtain ⟨g1, g2⟩ := ho e (by simp)
  have h3 := ks_bulk e.ks g2
  show e.it.bulk + bulks (esIts zs) ≤ 33 * (Rows.uptoBulk x + Rows.uptoBulkAll els)
  have h4 : e.it.bulk ≤ 25 + 33 * e.ks.length := by
   show (entIt e.a e.ks).bulk ≤ _
   simp only [entIt, It.lst, It.txt, It.bulk, bulks, g1, h3, List.length_nil]; omega
  omega
theorem tx_fit {H : Type} {t : Tx} (ho : t.ok) (hd : t.d.length ≤ 1048576) (hb : t.bl.length ≤ 1048576) (hu : t.au.length ≤ 1048576) {els : List (DataW H)} (hl : els.length = t.ac.length) (hk : Rows.uptoBulkAll els ≤ 1048576)
  (hR : ∀ (i : Nat) (a : Ent), t.ac[i]? = some a → ∃ x, els[i]? = some x ∧ a.ks.length + 2 ≤ Rows.uptoBulk x) : t.fit := by
 have h1 := es_sum t.ac els hl (fun e he => ⟨(ho.ac e he).1, fun w hw => ((ho.ac e he).2.2 w hw).1⟩) hR
 have h2 := us_bulk t.au fun u hu => (ho.au u hu).1
 exact ⟨by omega, by omega, by omega, by omega⟩
section
variable {H : Type} {enc : TypeId × Value → H} {W : World}
end
end Go.Proofs.YtgihmigiecfmaaaDoor.opensTx
