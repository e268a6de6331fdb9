/-
  From the reading of the arguments to plain data: access lists, authorizations; bulks.
  From the reading of the arguments to plain data: items.
-/
import Derived.Test.YtaenopgnhncgiaaRD
import Derived.Test.YtaenopgnhncgiaaEngR
import Derived.Test.YtaenopgnhncgiaaRows
import Derived.WalkKit
import Derived.ProofKit
import Derived.OpenShut
import Derived.JoinedCond
import Derived.Below
import Derived.Carry
import Derived.Lib.SmallJoins
import Derived.Test.YtaenopgnhncgiaaRE
namespace Go.Proofs.Ytaenopgnhncgiaa.opens
open Go.ChangeShapes Go.WideShapes Go.ChangeAt Go.RowKit Go.Eng

theorem own : ownKnob Try.prog.godebug = none := by kernel_rfl
theorem laidOut : laidOutB Try.prog = true := by kernel_rfl

theorem bulk_pos1 {H : Type} (x : DataW H) : 1 ≤ Rows.uptoBulk x := by
  cases x with
  | lit l => cases l <;> simp [Rows.uptoBulk]
  | _ => simp [Rows.uptoBulk]

theorem bulk_len {H : Type} (l : List (DataW H)) : l.length ≤ Rows.uptoBulkAll l := by
  induction l with
  | nil => simp [Rows.uptoBulkAll]
  | cons x r ih =>
    have h1 := bulk_pos1 x
    simp only [Rows.uptoBulkAll, List.length_cons]
    omega

theorem bulk_part {H : Type} {d : DataW H} {l : List (DataW H)} (h : d ∈ l) : Rows.uptoBulk d ≤ Rows.uptoBulkAll l := by
  induction l with
  | nil => cases h
  | cons x r ih =>
    simp only [Rows.uptoBulkAll]
    cases List.mem_cons.1 h with
    | inl e => subst e; omega
    | inr e => have := ih e; omega

theorem okWide_array {P : Program} {W : World} {r : Reach} {b0 : Nat} {t e : TypeId} {n : Nat} {v : Value} (ht : P.underlying t = some (.array n e)) (h : Value.okWide P W r b0 t v) : ∃ xs : Array Value, v = .agg xs ∧ xs.size = P.cellsOf t := by
  simp only [Value.okWide, ht] at h
  obtain ⟨cs, h1, h2, _⟩ := h
  exact ⟨cs, h1, h2⟩

theorem wfU {x : Int} (h : (Lit.int .u64 x).wf = true) : ∃ m : Nat, x = (m : Int) ∧ m < 18446744073709551616 := by
  have h2 : 0 ≤ x ∧ x ≤ 18446744073709551615 := by simpa [Lit.wf, IntKind.min, IntKind.max, IntKind.signed, IntKind.bits] using h
  exact ⟨x.toNat, by omega, by omega⟩
theorem wfB {x : Int} (h : (Lit.int .u8 x).wf = true) : 0 ≤ x ∧ x < 256 := by
  have h2 : 0 ≤ x ∧ x ≤ 255 := by simpa [Lit.wf, IntKind.min, IntKind.max, IntKind.signed, IntKind.bits] using h
  omega

theorem four (bs : List Int) (hl : bs.length = 4) (hw : ∀ b ∈ bs, (Lit.int .u64 b).wf = true) : ∃ n : Nat, n < M256 ∧ bs.map (Value.int .u64) = w4 n := by
  match bs, hl with
  | [a, b, c, d], _ =>
    obtain ⟨a', ha, la⟩ := wfU (hw a (by simp))
    obtain ⟨b', hb, lb⟩ := wfU (hw b (by simp))
    obtain ⟨c', hc, lc⟩ := wfU (hw c (by simp))
    obtain ⟨d', hd, ld⟩ := wfU (hw d (by simp))
    subst ha hb hc hd
    exact ⟨v4 a' b' c' d', by unfold v4 M256; omega, (w4_v4 la lb lc ld).symm⟩

theorem one8 (l : List Int) : ∀ u ∈ u8s l, u.oneCell' = true := fun u hu => by
  simp only [u8s, List.mem_map] at hu; obtain ⟨n, _, rfl⟩ := hu; rfl
theorem one4 (n : Nat) : ∀ u ∈ w4 n, u.oneCell' = true := fun u hu => by
  obtain ⟨z, rfl, _⟩ := w4_wf n u hu; rfl

theorem trod_struct6 {H : Type} {enc : TypeId × Value → H} {P : Program} {w : World} {base : Nat} {spare : TypeId → Bool} {held : Bool} {t : TypeId} {f0 f1 f2 f3 f4 f5 : Field} {fuel : Nat} {cs : List Value} {x : DataW H × List MemPlace} (ht : P.underlying t = some (.struct #[f0, f1, f2, f3, f4, f5])) (h : DataW.trod enc P w base spare held fuel t cs = some x) :
    ∃ y0 y1 y2 y3 y4 y5 n, x = (.agg [y0.1, y1.1, y2.1, y3.1, y4.1, y5.1], y0.2 ++ (y1.2 ++ (y2.2 ++ (y3.2 ++ (y4.2 ++ y5.2))))) ∧ cs.length = P.cellsOf t ∧ DataW.trod enc P w base spare held n f0.type ((cs.drop f0.offset).take (P.cellsOf f0.type)) = some y0 ∧
      DataW.trod enc P w base spare held n f1.type ((cs.drop f1.offset).take (P.cellsOf f1.type)) = some y1 ∧ DataW.trod enc P w base spare held n f2.type ((cs.drop f2.offset).take (P.cellsOf f2.type)) = some y2 ∧
      DataW.trod enc P w base spare held n f3.type ((cs.drop f3.offset).take (P.cellsOf f3.type)) = some y3 ∧ DataW.trod enc P w base spare held n f4.type ((cs.drop f4.offset).take (P.cellsOf f4.type)) = some y4 ∧
      DataW.trod enc P w base spare held n f5.type ((cs.drop f5.offset).take (P.cellsOf f5.type)) = some y5 := by
  obtain ⟨xs, n, _, rfl, hl, hlen, hf⟩ := DataW.trod_struct ht h
  match xs, hlen with
  | [y0, y1, y2, y3, y4, y5], _ => exact ⟨y0, y1, y2, y3, y4, y5, n, by simp, hl, by simpa using hf 0 f0 rfl, by simpa using hf 1 f1 rfl, by simpa using hf 2 f2 rfl, by simpa using hf 3 f3 rfl, by simpa using hf 4 f4 rfl, by simpa using hf 5 f5 rfl⟩

section
variable {H : Type} {enc : TypeId × Value → H} {W : World}

theorem open_key {fuel : Nat} {cs : List Value} {d : DataW H} {p : List MemPlace} (hl : cs.length = 32) (h : Rd enc Try.prog W fuel 69 cs d p) : ∃ k : List Int, RepL (memOf W) (key k) cs ∧ k.length = 32 := by
  obtain ⟨bs, rfl, hbl, _⟩ := open_arr Try.underlying69 Try.underlying5 (by kernel_rfl) hl h
  exact ⟨bs, ⟨hl, one8 bs, [], by simp [u8s], rfl⟩, hbl⟩

def entOk {H : Type} (e : Ent) (d : DataW H) : Prop := (e.a.length = 20 ∧ ∀ w ∈ e.ks, w.length = 32) ∧ e.ks.length + 2 ≤ Rows.uptoBulk d

theorem open_ent {fuel : Nat} {cs : List Value} {d : DataW H} {p : List MemPlace} (hl : cs.length = 21) (h : Rd enc Try.prog W fuel 67 cs d p) : ∃ e : Ent, RepL (memOf W) e.row cs ∧ entOk e d := by
  obtain ⟨y0, y1, n, hx, _, h0, h1⟩ := trod_struct2 Try.underlying67 h
  simp only [Prod.mk.injEq] at hx
  obtain ⟨rfl, _⟩ := hx
  have c24 : Try.prog.cellsOf 48 = 20 := by kernel_rfl
  have c72 : Try.prog.cellsOf 65 = 1 := by kernel_rfl
  simp only [c24, c72, List.drop_zero] at h0 h1
  obtain ⟨bs, hbs, hbl, _⟩ := open_arr (d := y0.1) (p := y0.2) Try.underlying48 Try.underlying5 (by kernel_rfl) (by simp [hl]) h0
  obtain ⟨v, hv⟩ : ∃ v, cs.drop 20 = [v] := by
    have : (cs.drop 20).length = 1 := by simp [hl]
    match hc : cs.drop 20, this with
    | [v], _ => exact ⟨v, rfl⟩
  rw [hv, List.take_of_length_le (by simp)] at h1
  obtain ⟨ls, ss, hr, hd⟩ := open_sl (sz := 32) (row := key) (R := fun k _ => k.length = 32) (d := y1.1) (p := y1.2) Try.underlying65 (by kernel_rfl) (by omega) (fun _ => rfl) (fun fuel cs d p hl h => open_key hl h) h1
  refine ⟨⟨bs, ls, ss.map key⟩, ⟨by simp [u8s, hbl], one8 bs, [v], ?_, v, [], rfl, hr, rfl⟩, ⟨hbl, ?_⟩, ?_⟩
  · rw [← hv, u8s, ← hbs, List.take_append_drop]
  · rcases hd with ⟨_, rfl, _⟩ | ⟨els, rest, _, _, _, hR⟩
    · intro w hw; cases hw
    · intro w hw
      obtain ⟨i, hi, rfl⟩ := List.getElem_of_mem hw
      obtain ⟨_, _, h⟩ := hR i _ (List.getElem?_eq_getElem hi)
      exact h
  · simp only [Rows.uptoBulk, Rows.uptoBulkAll]
    have h0' := bulk_pos1 y0.1
    rcases hd with ⟨hd, rfl, _⟩ | ⟨els, rest, hd, hel, _, _⟩
    · have := bulk_pos1 y1.1; simp; omega
    · rw [hd]
      have := bulk_len els
      simp only [Rows.uptoBulk]
      omega

theorem ents_bulk : ∀ {es : List Ent} {els : List (DataW H)}, (∀ (i : Nat) (e : Ent), es[i]? = some e → ∃ x, els[i]? = some x ∧ entOk e x) → bulks (esIts es) ≤ 33 * Rows.uptoBulkAll els
  | [], _, _ => Nat.zero_le _
  | e :: es, [], h => by obtain ⟨x, hx, _⟩ := h 0 e rfl; cases hx
  | e :: es, x :: els, h => by
    obtain ⟨x', hx, ⟨h1, h2⟩, h3⟩ := h 0 e rfl
    cases hx
    have ih := ents_bulk (es := es) (els := els) fun i e' he => h (i + 1) e' he
    show e.it.bulk + bulks (esIts es) ≤ _
    have hk : ∀ ks : List (List Int), (∀ w ∈ ks, w.length = 32) → ksB ks = 33 * ks.length := by
      intro ks
      induction ks with
      | nil => intro _; rfl
      | cons k ks ih =>
        intro hh
        have := ih fun w hw => hh w (by simp [hw])
        have h1 := hh k (by simp)
        show (1 + k.length + 0) + ksB ks = _
        rw [this, h1, List.length_cons]; omega
    rw [Ent.it, ent_bulk, hk e.ks h2, h1, Rows.uptoBulkAll]
    omega

theorem open_list {fuel : Nat} {v : Value} {d : DataW H} {p : List MemPlace} (h : Rd enc Try.prog W fuel 32 [v] d p) (hk : Rows.uptoBulk d ≤ 1048576) :
    ∃ (es : List Ent) (s : List (List PS)), RepV (memOf W) (.sl (es.map Ent.row) s) v ∧ (∀ e ∈ es, e.a.length = 20 ∧ ∀ w ∈ e.ks, w.length = 32) ∧ bulks (esIts es) ≤ 33 * 1048576 := by
  obtain ⟨ls, ss, hr, hd⟩ := open_sl (sz := 21) (row := Ent.row) (R := entOk) Try.underlying32 (by kernel_rfl) (by omega) (fun _ => rfl) (fun fuel cs d p hl h => open_ent hl h) h
  refine ⟨ls, ss.map Ent.row, hr, ?_⟩
  rcases hd with ⟨_, rfl, _⟩ | ⟨els, rest, rfl, hel, _, hR⟩
  · exact ⟨by simp, Nat.zero_le _⟩
  · simp only [Rows.uptoBulk] at hk
    refine ⟨fun e he => ?_, ?_⟩
    · obtain ⟨i, hi, rfl⟩ := List.getElem_of_mem he
      obtain ⟨x, hx, hle⟩ := hR i _ (List.getElem?_eq_getElem hi)
      exact hle.1
    · have := ents_bulk hR
      omega

theorem cell_of {l : List Value} {n : Nat} (h : n < l.length) : (l.drop n).take 1 = [l[n]] := by
  rw [List.drop_eq_getElem_cons h]; rfl

theorem open_au {fuel : Nat} {cs : List Value} {d : DataW H} {p : List MemPlace} (hl : cs.length = 34) (h : Rd enc Try.prog W fuel 50 cs d p) : ∃ u : Au, RepL (memOf W) u.row cs ∧ u.ok ∧ bytesOk u.a := by
  obtain ⟨y0, y1, y2, y3, y4, y5, n, _, _, h0, h1, h2, h3, h4, h5⟩ := trod_struct6 Try.underlying50 h
  have c4 : Try.prog.cellsOf 24 = 4 := by kernel_rfl
  have c20 : Try.prog.cellsOf 48 = 20 := by kernel_rfl
  have c1 : Try.prog.cellsOf 22 = 1 := by kernel_rfl
  simp only [c4, c20, c1, List.drop_zero] at h0 h1 h2 h3 h4 h5
  obtain ⟨b0, e0, l0, w0⟩ := open_arr (d := y0.1) (p := y0.2) Try.underlying24 Try.underlying22 (by kernel_rfl) (by simp [hl]) h0
  obtain ⟨b1, e1, l1, w1⟩ := open_arr (d := y1.1) (p := y1.2) Try.underlying48 Try.underlying5 (by kernel_rfl) (by simp [hl]) h1
  obtain ⟨b2, e2, _, w2⟩ := DataW.trod_int Try.underlying22 h2
  obtain ⟨b3, e3, _, w3⟩ := DataW.trod_int Try.underlying22 h3
  obtain ⟨b4, e4, l4, w4'⟩ := open_arr (d := y4.1) (p := y4.2) Try.underlying24 Try.underlying22 (by kernel_rfl) (by simp [hl]) h4
  obtain ⟨b5, e5, l5, w5⟩ := open_arr (d := y5.1) (p := y5.2) Try.underlying24 Try.underlying22 (by kernel_rfl) (by simp [hl]) h5
  obtain ⟨n0, hn0, q0⟩ := four b0 l0 w0
  obtain ⟨n2, rfl, hn2⟩ := wfU w2
  obtain ⟨n3, rfl, hn3⟩ := wfU w3
  obtain ⟨n4, hn4, q4⟩ := four b4 l4 w4'
  obtain ⟨n5, hn5, q5⟩ := four b5 l5 w5
  have hcs : cs = w4 n0 ++ (u8s b1 ++ (.int .u64 n2 :: .int .u64 n3 :: (w4 n4 ++ (w4 n5 ++ [])))) := by
    have hd : cs = cs.take 4 ++ ((cs.drop 4).take 20 ++ ((cs.drop 24).take 1 ++ ((cs.drop 25).take 1 ++ ((cs.drop 26).take 4 ++ ((cs.drop 30).take 4 ++ []))))) := by
      refine List.ext_getElem? fun i => ?_
      simp only [List.getElem?_append, List.getElem?_take, List.getElem?_drop, List.length_take, List.length_drop, hl, List.append_nil]
      by_cases h1 : i < 4
      · simp [h1]
      · by_cases h2 : i < 24
        · simp [h1, show i - 4 < 20 by omega, show 4 + (i - 4) = i by omega]
        · by_cases h3 : i < 25
          · simp [h1, show ¬ i - 4 < 20 by omega, show i - 4 - 20 < 1 by omega, show 24 + (i - 4 - 20) = i by omega]
          · by_cases h4 : i < 26
            · simp [h1, show ¬ i - 4 < 20 by omega, show ¬ i - 4 - 20 < 1 by omega, show i - 4 - 20 - 1 < 1 by omega, show 25 + (i - 4 - 20 - 1) = i by omega]
            · by_cases h5 : i < 30
              · simp [h1, show ¬ i - 4 < 20 by omega, show ¬ i - 4 - 20 < 1 by omega, show ¬ i - 4 - 20 - 1 < 1 by omega, show i - 4 - 20 - 1 - 1 < 4 by omega, show 26 + (i - 4 - 20 - 1 - 1) = i by omega]
              · by_cases h6 : i < 34
                · simp [h1, show ¬ i - 4 < 20 by omega, show ¬ i - 4 - 20 < 1 by omega, show ¬ i - 4 - 20 - 1 < 1 by omega, show ¬ i - 4 - 20 - 1 - 1 < 4 by omega, show i - 4 - 20 - 1 - 1 - 4 < 4 by omega, show 30 + (i - 4 - 20 - 1 - 1 - 4) = i by omega]
                · rw [List.getElem?_eq_none (by omega)]
                  simp [h1, show ¬ i - 4 < 20 by omega, show ¬ i - 4 - 20 < 1 by omega, show ¬ i - 4 - 20 - 1 < 1 by omega, show ¬ i - 4 - 20 - 1 - 1 < 4 by omega, show ¬ i - 4 - 20 - 1 - 1 - 4 < 4 by omega]
    rw [hd, e0, e1, e2, e3, e4, e5, q0, q4, q5]
    rfl
  rw [hcs]
  refine ⟨⟨n0, b1, n2, n3, n4, n5⟩, ?_, ⟨hn0, l1, hn2, hn3, hn4, hn5⟩, fun b hb => wfB (w1 b hb)⟩
  refine ⟨rfl, one4 n0, _, rfl, by rw [u8s, List.length_map]; exact l1, one8 b1, _, rfl, _, _, rfl, ⟨rfl, rfl⟩, _, _, rfl, ⟨rfl, rfl⟩, rfl, one4 n4, _, rfl, rfl, one4 n5, [], rfl, rfl⟩

theorem open_aus {fuel : Nat} {v : Value} {d : DataW H} {p : List MemPlace} (h : Rd enc Try.prog W fuel 46 [v] d p) (hk : Rows.uptoBulk d ≤ 1048576) :
    ∃ (us : List Au) (s : List (List PS)), RepV (memOf W) (.sl (us.map Au.row) s) v ∧ (∀ u ∈ us, u.ok ∧ bytesOk u.a) ∧ us.length ≤ 1048576 := by
  obtain ⟨ls, ss, hr, hd⟩ := open_sl (sz := 34) (row := Au.row) (R := fun u _ => u.ok ∧ bytesOk u.a) Try.underlying46 (by kernel_rfl) (by omega) (fun _ => rfl) (fun fuel cs d p hl h => open_au hl h) h
  refine ⟨ls, ss.map Au.row, hr, ?_⟩
  rcases hd with ⟨_, rfl, _⟩ | ⟨els, rest, rfl, hel, _, hR⟩
  · exact ⟨by simp, Nat.zero_le _⟩
  · simp only [Rows.uptoBulk] at hk
    have := bulk_len els
    refine ⟨fun e he => ?_, by omega⟩
    obtain ⟨i, hi, rfl⟩ := List.getElem_of_mem he
    obtain ⟨x, hx, hle⟩ := hR i _ (List.getElem?_eq_getElem hi)
    exact hle
end
end Go.Proofs.Ytaenopgnhncgiaa.opens
namespace Go.Proofs.Ytaenopgnhncgiaa.opens
open Go.ChangeShapes Go.WideShapes Go.ChangeAt Go.RowKit Go.Eng

section
variable {H : Type} {enc : TypeId × Value → H} {P : Program} {W : World}
theorem open_slF {α : Type} {row : α → List PS} {R : α → DataW H → Prop} {t e : TypeId} {sz fuel : Nat} {v : Value} {d : DataW H} {p : List MemPlace} (ht : P.underlying t = some (.slice e)) (hsz : P.cellsOf e = sz) (hpos : 0 < sz) (hrl : ∀ a, rlen (row a) = sz)
    (hel : ∀ f' cs d p, f' < fuel → cs.length = sz → Rd enc P W f' e cs d p → ∃ a, RepL (memOf W) (row a) cs ∧ R a d) (h : Rd enc P W fuel t [v] d p) :
    ∃ ls ss : List α, RepV (memOf W) (.sl (ls.map row) (ss.map row)) v ∧ ((d = .nil ∧ ls = [] ∧ ss = []) ∨ ∃ els rest : List (DataW H), d = .slice els rest ∧ els.length = ls.length ∧ rest.length = ss.length ∧ ∀ (i : Nat) (a : α), ls[i]? = some a → ∃ x, els[i]? = some x ∧ R a x) := by
  rcases DataW.trod_slice ht h with ⟨hv, hx⟩ | ⟨a, len, cap, elems, rest, n, hfu, hv, hx, hb, hlc, hcm, hlen, hE, hS, _⟩
  · simp only [List.cons.injEq, and_true] at hv
    simp only [Prod.mk.injEq] at hx
    subst hv
    refine ⟨[], [], ?_, .inl ⟨hx.1, rfl, rfl⟩⟩
    rw [RepV]
    exact ⟨none, 0, rfl, Nat.le_refl _, .inl ⟨rfl, rfl⟩⟩
  · simp only [List.cons.injEq, and_true] at hv
    simp only [Prod.mk.injEq] at hx
    subst hv
    obtain ⟨hrest, hS⟩ := hS rfl
    rw [hsz] at hE hS
    have one : ∀ (q : Nat) (y : Option (DataW H × List MemPlace)), (∃ z, y = some z) → (W.cells? 0 (a.add (q * sz)) sz).bind (DataW.trod enc P W 0 (fun _ => true) true n e) = y →
        ∃ (x : α) (cs : List Value) (z : DataW H × List MemPlace), y = some z ∧ RepL (memOf W) (row x) cs ∧ R x z.1 ∧ ∀ j u, cs[j]? = some u → W.cell? ((a.add (q * sz)).add j) = some u := fun q y ⟨z, hz⟩ hbind => by
      subst hz
      obtain ⟨cs, h1, h2⟩ := Option.bind_eq_some_iff.1 hbind
      obtain ⟨_, hcl, hcell⟩ := World.cells?_some h1
      obtain ⟨x, hL, hR⟩ := hel n cs z.1 z.2 (by omega) hcl h2
      refine ⟨x, cs, z, rfl, hL, hR, fun j u hj => ?_⟩
      rw [hcell j (by have := (List.getElem?_eq_some_iff.1 hj).1; omega)]
      exact hj
    obtain ⟨ls, hal, has⟩ := list_of (p := fun i (x : α) => ∃ (cs : List Value) (z : DataW H × List MemPlace), elems[i]? = some z ∧ RepL (memOf W) (row x) cs ∧ R x z.1 ∧ ∀ j u, cs[j]? = some u → W.cell? ((a.add (i * sz)).add j) = some u) len fun i hi => by
      obtain ⟨x, cs, z, h1, h2⟩ := one i _ ⟨_, List.getElem?_eq_getElem (show i < elems.length by omega)⟩ (hE i hi)
      exact ⟨x, cs, z, h1, h2⟩
    obtain ⟨ss, hsl, hss⟩ := list_of (p := fun i (x : α) => ∃ (cs : List Value) (z : DataW H × List MemPlace), rest[i]? = some z ∧ RepL (memOf W) (row x) cs ∧ R x z.1 ∧ ∀ j u, cs[j]? = some u → W.cell? ((a.add ((len + i) * sz)).add j) = some u) (cap - len) fun i hi => by
      obtain ⟨x, cs, z, h1, h2⟩ := one (len + i) _ ⟨_, List.getElem?_eq_getElem (show i < rest.length by omega)⟩ (hS i hi)
      exact ⟨x, cs, z, h1, h2⟩
    refine ⟨ls, ss, ?_, .inr ⟨elems.map (·.1), rest.map (·.1), hx.1, by simp [hlen, hal], by simp [hrest, hsl], fun i x hi => ?_⟩⟩
    · rw [RepV]
      refine ⟨some a, cap, by simp [hal], by simp [hal, hsl]; omega, ?_⟩
      by_cases h0 : cap = 0
      · exact .inl ⟨by simp; exact List.eq_nil_of_length_eq_zero (by omega), by simp; exact List.eq_nil_of_length_eq_zero (by omega)⟩
      · have hspot : a = ⟨a.block, a.off, none⟩ := by
          have first : ∀ (x : α) (cs : List Value), RepL (memOf W) (row x) cs → (∀ j u, cs[j]? = some u → W.cell? ((a.add 0).add j) = some u) → a = ⟨a.block, a.off, none⟩ := fun x cs hL hc => by
            have hcl : cs.length = sz := by rw [hL.length, hrl]
            have := hc 0 (cs[0]'(by omega)) (List.getElem?_eq_getElem _)
            exact spot_of (show W.cell? a = _ from this)
          by_cases hl0 : len = 0
          · obtain ⟨cs, z, _, hL, _, hc⟩ := hss 0 (ss[0]'(by omega)) (List.getElem?_eq_getElem _)
            exact first _ cs hL (by simpa [hl0] using hc)
          · obtain ⟨cs, z, _, hL, _, hc⟩ := has 0 (ls[0]'(by omega)) (List.getElem?_eq_getElem _)
            exact first _ cs hL (by simpa using hc)
        have hadd : ∀ (q : Nat) (cs : List Value), (∀ j u, cs[j]? = some u → W.cell? ((a.add (q * sz)).add j) = some u) → ∀ j u, cs[j]? = some u → memOf W a.block (a.off + q * sz + j) = some u := fun q cs hc j u hj => by
          have := hc j u hj
          rw [hspot, Addr.add_mid, Addr.add_mid] at this
          exact this
        refine .inr ⟨a.block, a.off, sz, by rw [← hspot], ?_, ?_⟩
        · refine RepE.of_get fun i x hi => ?_
          rw [List.getElem?_map, Option.map_eq_some_iff] at hi
          obtain ⟨y, hy, rfl⟩ := hi
          obtain ⟨cs, z, _, hL, _, hc⟩ := has i y hy
          exact ⟨hrl y, RepC.of_values hL (hadd i cs hc)⟩
        · refine RepE.of_get fun i x hi => ?_
          rw [List.getElem?_map, Option.map_eq_some_iff] at hi
          obtain ⟨y, hy, rfl⟩ := hi
          obtain ⟨cs, z, _, hL, _, hc⟩ := hss i y hy
          refine ⟨hrl y, RepC.of_values hL fun j u hj => ?_⟩
          have := hadd (len + i) cs hc j u hj
          rw [show a.off + (ls.map row).length * sz + i * sz + j = a.off + (len + i) * sz + j by simp [hal, Nat.add_mul]; omega]
          exact this
    · obtain ⟨cs, z, hz, _, hR, _⟩ := has i x hi
      exact ⟨z.1, by simp [hz], hR⟩

end

theorem bulkAll_mem {H : Type} : ∀ {its : List It} {els : List (DataW H)}, (∀ (i : Nat) (x : It), its[i]? = some x → ∃ y, els[i]? = some y ∧ x.byt ∧ x.bulk ≤ Rows.uptoBulk y) → byts its ∧ bulks its ≤ Rows.uptoBulkAll els
  | [], _, _ => ⟨trivial, Nat.zero_le _⟩
  | x :: its, [], h => by obtain ⟨y, hy, _⟩ := h 0 x rfl; cases hy
  | x :: its, y :: els, h => by
    obtain ⟨y', hy, h1, h2⟩ := h 0 x rfl
    cases hy
    obtain ⟨i1, i2⟩ := bulkAll_mem (its := its) (els := els) fun i x' hx => h (i + 1) x' hx
    refine ⟨⟨h1, i1⟩, ?_⟩
    rw [bulks, Rows.uptoBulkAll]
    omega

section
variable {H : Type} {enc : TypeId × Value → H} {W : World}

theorem list3 {α : Type} : ∀ l : List α, l.length = 3 → ∃ a b c, l = [a, b, c]
  | [a, b, c], _ => ⟨a, b, c, rfl⟩

theorem open_byte {fuel : Nat} {cs : List Value} {d : DataW H} {p : List MemPlace} (h : Rd enc Try.prog W fuel 5 cs d p) : ∃ b : Int, RepL (memOf W) (b8 b) cs ∧ 0 ≤ b ∧ b < 256 := by
  obtain ⟨b, hb, _, hw⟩ := DataW.trod_int Try.underlying5 h
  refine ⟨b, ?_, wfB hw⟩
  rw [hb]
  exact ⟨_, [], rfl, ⟨rfl, rfl⟩, rfl⟩

theorem open_item : ∀ (fuel : Nat) {cs : List Value} {d : DataW H} {p : List MemPlace}, cs.length = 3 → Rd enc Try.prog W fuel 37 cs d p → ∃ x : It, RepL (memOf W) x.row cs ∧ x.byt ∧ x.bulk ≤ Rows.uptoBulk d := by
  intro fuel
  induction fuel using Nat.strongRecOn with
  | _ fuel ih =>
    intro cs d p hl h
    obtain ⟨xs, n, hfu, hx, _, hlen, hf⟩ := DataW.trod_struct Try.underlying37 h
    have hlen3 : xs.length = 3 := hlen
    obtain ⟨y0, y1, y2, rfl⟩ := list3 xs hlen3
    obtain ⟨v0, v1, v2, rfl⟩ := list3 cs hl
    have hx1 : d = .agg [y0.1, y1.1, y2.1] := congrArg Prod.fst hx
    subst hx1
    have c0 : Try.prog.cellsOf 4 = 1 := by kernel_rfl
    have c1 : Try.prog.cellsOf 34 = 1 := by kernel_rfl
    have c2 : Try.prog.cellsOf 35 = 1 := by kernel_rfl
    have h0 : Rd enc Try.prog W n 4 [v0] y0.1 y0.2 := by
      have h' : DataW.trod enc Try.prog W 0 (fun _ => true) true n 4 (List.take (Try.prog.cellsOf 4) (List.drop 0 [v0, v1, v2])) = some y0 := hf 0 _ rfl
      rw [c0] at h'; exact h'
    have h1 : Rd enc Try.prog W n 34 [v1] y1.1 y1.2 := by
      have h' : DataW.trod enc Try.prog W 0 (fun _ => true) true n 34 (List.take (Try.prog.cellsOf 34) (List.drop 1 [v0, v1, v2])) = some y1 := hf 1 _ rfl
      rw [c1] at h'; exact h'
    have h2 : Rd enc Try.prog W n 35 [v2] y2.1 y2.2 := by
      have h' : DataW.trod enc Try.prog W 0 (fun _ => true) true n 35 (List.take (Try.prog.cellsOf 35) (List.drop 2 [v0, v1, v2])) = some y2 := hf 2 _ rfl
      rw [c2] at h'; exact h'
    obtain ⟨b, hb, _⟩ := DataW.trod_bool Try.underlying4 h0
    obtain ⟨ds, sds, hr1, hd1⟩ := open_slF (sz := 1) (row := b8) (R := fun b _ => 0 ≤ b ∧ b < 256) (d := y1.1) (p := y1.2) Try.underlying34 (by kernel_rfl) (by omega) (fun _ => rfl) (fun f' cs d p _ _ h => open_byte h) h1
    obtain ⟨its, sits, hr2, hd2⟩ := open_slF (sz := 3) (row := It.row) (R := fun x d => x.byt ∧ x.bulk ≤ Rows.uptoBulk d) (d := y2.1) (p := y2.2) Try.underlying35 (by kernel_rfl) (by omega) It.row_len (fun f' cs d p hlt hl h => ih f' (by omega) hl h) h2
    have hb0 : v0 = .bool b := by simpa using hb
    have p0 := bulk_pos1 y0.1
    have hD : bytesOk ds ∧ ds.length + 1 ≤ Rows.uptoBulk y1.1 := by
      rcases hd1 with ⟨hn, rfl, _⟩ | ⟨els, rest, he, hel, _, hR⟩
      · exact ⟨fun b hb => by (cases hb), bulk_pos1 _⟩
      · refine ⟨fun b hb => ?_, ?_⟩
        · obtain ⟨i, hi, rfl⟩ := List.getElem_of_mem hb
          obtain ⟨_, _, h⟩ := hR i _ (List.getElem?_eq_getElem hi)
          exact h
        · rw [he]; have := bulk_len els; simp only [Rows.uptoBulk]; omega
    have hI : byts its ∧ bulks its + 1 ≤ Rows.uptoBulk y2.1 := by
      rcases hd2 with ⟨hn, rfl, _⟩ | ⟨els, rest, he, hel, _, hR⟩
      · exact ⟨trivial, bulk_pos1 _⟩
      · obtain ⟨i1, i2⟩ := bulkAll_mem hR
        refine ⟨i1, ?_⟩
        rw [he]; simp only [Rows.uptoBulk]; omega
    refine ⟨.mk b ds (sds.map b8) its (sits.map It.row), ?_, ⟨hD.1, hI.1⟩, ?_⟩
    · exact ⟨_, _, rfl, ⟨hb0, rfl⟩, _, _, rfl, hr1, _, _, rfl, by rw [rowsOf_map]; exact hr2, rfl⟩
    · simp only [It.bulk, Rows.uptoBulk, Rows.uptoBulkAll]
      omega
end
end Go.Proofs.Ytaenopgnhncgiaa.opens
