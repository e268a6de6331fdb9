/-
  From the reading of the arguments to plain data: access lists, authorizations; bulks.
-/
import Derived.Test.YtgihmigiecfmaaaRC
import Derived.Test.YtgihmigiecfmaaaEngR
import Derived.Test.YtgihmigiecfmaaaRows
import Derived.WalkKit
import Derived.ProofKit
import Derived.OpenShut
import Derived.JoinedCond
import Derived.Below
import Derived.Carry
import Derived.Lib.SmallJoins
namespace Go.Proofs.Ytgihmigiecfmaaa.opens
open Go.ChangeShapes Go.WideShapes Go.ChangeAt Go.RowKit Go.Eng

theorem own : ownKnob Try.prog.godebug = none := by kernel_rfl
theorem laidOut : laidOutB Try.prog = true := by kernel_rfl

theorem bulk_pos1 {H : Type} (x : DataW H) : 1 ≤ Rows.uptoBulk x := by
  cases x with
  | lit l => cases l <;> simp [Rows.uptoBulk]
  | _ => simp [Rows.uptoBulk]

theorem bulk_len {H : Type} (l : List (DataW H)) : l.length ≤ Rows.uptoBulkAll l := by
  induction l with
  | nil => simp [Rows.uptoBulkAll]
  | cons x r ih =>
    have h1 := bulk_pos1 x
    simp only [Rows.uptoBulkAll, List.length_cons]
    omega

theorem bulk_part {H : Type} {d : DataW H} {l : List (DataW H)} (h : d ∈ l) : Rows.uptoBulk d ≤ Rows.uptoBulkAll l := by
  induction l with
  | nil => cases h
  | cons x r ih =>
    simp only [Rows.uptoBulkAll]
    cases List.mem_cons.1 h with
    | inl e => subst e; omega
    | inr e => have := ih e; omega

theorem okWide_array {P : Program} {W : World} {r : Reach} {b0 : Nat} {t e : TypeId} {n : Nat} {v : Value} (ht : P.underlying t = some (.array n e)) (h : Value.okWide P W r b0 t v) : ∃ xs : Array Value, v = .agg xs ∧ xs.size = P.cellsOf t := by
  simp only [Value.okWide, ht] at h
  obtain ⟨cs, h1, h2, _⟩ := h
  exact ⟨cs, h1, h2⟩

theorem wfU {x : Int} (h : (Lit.int .u64 x).wf = true) : ∃ m : Nat, x = (m : Int) ∧ m < 18446744073709551616 := by
  have h2 : 0 ≤ x ∧ x ≤ 18446744073709551615 := by simpa [Lit.wf, IntKind.min, IntKind.max, IntKind.signed, IntKind.bits] using h
  exact ⟨x.toNat, by omega, by omega⟩
theorem wfB {x : Int} (h : (Lit.int .u8 x).wf = true) : 0 ≤ x ∧ x < 256 := by
  have h2 : 0 ≤ x ∧ x ≤ 255 := by simpa [Lit.wf, IntKind.min, IntKind.max, IntKind.signed, IntKind.bits] using h
  omega

theorem four (bs : List Int) (hl : bs.length = 4) (hw : ∀ b ∈ bs, (Lit.int .u64 b).wf = true) : ∃ n : Nat, n < M256 ∧ bs.map (Value.int .u64) = w4 n := by
  match bs, hl with
  | [a, b, c, d], _ =>
    obtain ⟨a', ha, la⟩ := wfU (hw a (by simp))
    obtain ⟨b', hb, lb⟩ := wfU (hw b (by simp))
    obtain ⟨c', hc, lc⟩ := wfU (hw c (by simp))
    obtain ⟨d', hd, ld⟩ := wfU (hw d (by simp))
    subst ha hb hc hd
    exact ⟨v4 a' b' c' d', by unfold v4 M256; omega, (w4_v4 la lb lc ld).symm⟩

theorem one8 (l : List Int) : ∀ u ∈ u8s l, u.oneCell' = true := fun u hu => by
  simp only [u8s, List.mem_map] at hu; obtain ⟨n, _, rfl⟩ := hu; rfl
theorem one4 (n : Nat) : ∀ u ∈ w4 n, u.oneCell' = true := fun u hu => by
  obtain ⟨z, rfl, _⟩ := w4_wf n u hu; rfl

theorem trod_struct6 {H : Type} {enc : TypeId × Value → H} {P : Program} {w : World} {base : Nat} {spare : TypeId → Bool} {held : Bool} {t : TypeId} {f0 f1 f2 f3 f4 f5 : Field} {fuel : Nat} {cs : List Value} {x : DataW H × List MemPlace} (ht : P.underlying t = some (.struct #[f0, f1, f2, f3, f4, f5])) (h : DataW.trod enc P w base spare held fuel t cs = some x) :
    ∃ y0 y1 y2 y3 y4 y5 n, x = (.agg [y0.1, y1.1, y2.1, y3.1, y4.1, y5.1], y0.2 ++ (y1.2 ++ (y2.2 ++ (y3.2 ++ (y4.2 ++ y5.2))))) ∧ cs.length = P.cellsOf t ∧ DataW.trod enc P w base spare held n f0.type ((cs.drop f0.offset).take (P.cellsOf f0.type)) = some y0 ∧
      DataW.trod enc P w base spare held n f1.type ((cs.drop f1.offset).take (P.cellsOf f1.type)) = some y1 ∧ DataW.trod enc P w base spare held n f2.type ((cs.drop f2.offset).take (P.cellsOf f2.type)) = some y2 ∧
      DataW.trod enc P w base spare held n f3.type ((cs.drop f3.offset).take (P.cellsOf f3.type)) = some y3 ∧ DataW.trod enc P w base spare held n f4.type ((cs.drop f4.offset).take (P.cellsOf f4.type)) = some y4 ∧
      DataW.trod enc P w base spare held n f5.type ((cs.drop f5.offset).take (P.cellsOf f5.type)) = some y5 := by
  obtain ⟨xs, n, _, rfl, hl, hlen, hf⟩ := DataW.trod_struct ht h
  match xs, hlen with
  | [y0, y1, y2, y3, y4, y5], _ => exact ⟨y0, y1, y2, y3, y4, y5, n, by simp, hl, by simpa using hf 0 f0 rfl, by simpa using hf 1 f1 rfl, by simpa using hf 2 f2 rfl, by simpa using hf 3 f3 rfl, by simpa using hf 4 f4 rfl, by simpa using hf 5 f5 rfl⟩

section
variable {H : Type} {enc : TypeId × Value → H} {W : World}

theorem open_key {fuel : Nat} {cs : List Value} {d : DataW H} {p : List MemPlace} (hl : cs.length = 32) (h : Rd enc Try.prog W fuel 64 cs d p) : ∃ k : List Int, RepL (memOf W) (key k) cs ∧ k.length = 32 := by
  obtain ⟨bs, rfl, hbl, _⟩ := open_arr Try.underlying64 Try.underlying5 (by kernel_rfl) hl h
  exact ⟨bs, ⟨hl, one8 bs, [], by simp [u8s], rfl⟩, hbl⟩

def entOk {H : Type} (e : Ent) (d : DataW H) : Prop := (e.a.length = 20 ∧ ∀ w ∈ e.ks, w.length = 32) ∧ e.ks.length + 2 ≤ Rows.uptoBulk d

theorem open_ent {fuel : Nat} {cs : List Value} {d : DataW H} {p : List MemPlace} (hl : cs.length = 21) (h : Rd enc Try.prog W fuel 62 cs d p) : ∃ e : Ent, RepL (memOf W) e.row cs ∧ entOk e d := by
  obtain ⟨y0, y1, n, hx, _, h0, h1⟩ := trod_struct2 Try.underlying62 h
  simp only [Prod.mk.injEq] at hx
  obtain ⟨rfl, _⟩ := hx
  have c24 : Try.prog.cellsOf 43 = 20 := by kernel_rfl
  have c72 : Try.prog.cellsOf 60 = 1 := by kernel_rfl
  simp only [c24, c72, List.drop_zero] at h0 h1
  obtain ⟨bs, hbs, hbl, _⟩ := open_arr (d := y0.1) (p := y0.2) Try.underlying43 Try.underlying5 (by kernel_rfl) (by simp [hl]) h0
  obtain ⟨v, hv⟩ : ∃ v, cs.drop 20 = [v] := by
    have : (cs.drop 20).length = 1 := by simp [hl]
    match hc : cs.drop 20, this with
    | [v], _ => exact ⟨v, rfl⟩
  rw [hv, List.take_of_length_le (by simp)] at h1
  obtain ⟨ls, ss, hr, hd⟩ := open_sl (sz := 32) (row := key) (R := fun k _ => k.length = 32) (d := y1.1) (p := y1.2) Try.underlying60 (by kernel_rfl) (by omega) (fun _ => rfl) (fun fuel cs d p hl h => open_key hl h) h1
  refine ⟨⟨bs, ls, ss.map key⟩, ⟨by simp [u8s, hbl], one8 bs, [v], ?_, v, [], rfl, hr, rfl⟩, ⟨hbl, ?_⟩, ?_⟩
  · rw [← hv, u8s, ← hbs, List.take_append_drop]
  · rcases hd with ⟨_, rfl, _⟩ | ⟨els, rest, _, _, _, hR⟩
    · intro w hw; cases hw
    · intro w hw
      obtain ⟨i, hi, rfl⟩ := List.getElem_of_mem hw
      obtain ⟨_, _, h⟩ := hR i _ (List.getElem?_eq_getElem hi)
      exact h
  · simp only [Rows.uptoBulk, Rows.uptoBulkAll]
    have h0' := bulk_pos1 y0.1
    rcases hd with ⟨hd, rfl, _⟩ | ⟨els, rest, hd, hel, _, _⟩
    · have := bulk_pos1 y1.1; simp; omega
    · rw [hd]
      have := bulk_len els
      simp only [Rows.uptoBulk]
      omega

theorem ents_bulk : ∀ {es : List Ent} {els : List (DataW H)}, (∀ (i : Nat) (e : Ent), es[i]? = some e → ∃ x, els[i]? = some x ∧ entOk e x) → bulks (esIts es) ≤ 33 * Rows.uptoBulkAll els
  | [], _, _ => Nat.zero_le _
  | e :: es, [], h => by obtain ⟨x, hx, _⟩ := h 0 e rfl; cases hx
  | e :: es, x :: els, h => by
    obtain ⟨x', hx, ⟨h1, h2⟩, h3⟩ := h 0 e rfl
    cases hx
    have ih := ents_bulk (es := es) (els := els) fun i e' he => h (i + 1) e' he
    show e.it.bulk + bulks (esIts es) ≤ _
    have hk : ∀ ks : List (List Int), (∀ w ∈ ks, w.length = 32) → ksB ks = 33 * ks.length := by
      intro ks
      induction ks with
      | nil => intro _; rfl
      | cons k ks ih =>
        intro hh
        have := ih fun w hw => hh w (by simp [hw])
        have h1 := hh k (by simp)
        show (1 + k.length + 0) + ksB ks = _
        rw [this, h1, List.length_cons]; omega
    rw [Ent.it, ent_bulk, hk e.ks h2, h1, Rows.uptoBulkAll]
    omega

theorem open_list {fuel : Nat} {v : Value} {d : DataW H} {p : List MemPlace} (h : Rd enc Try.prog W fuel 22 [v] d p) (hk : Rows.uptoBulk d ≤ 1048576) :
    ∃ (es : List Ent) (s : List (List PS)), RepV (memOf W) (.sl (es.map Ent.row) s) v ∧ (∀ e ∈ es, e.a.length = 20 ∧ ∀ w ∈ e.ks, w.length = 32) ∧ bulks (esIts es) ≤ 33 * 1048576 := by
  obtain ⟨ls, ss, hr, hd⟩ := open_sl (sz := 21) (row := Ent.row) (R := entOk) Try.underlying22 (by kernel_rfl) (by omega) (fun _ => rfl) (fun fuel cs d p hl h => open_ent hl h) h
  refine ⟨ls, ss.map Ent.row, hr, ?_⟩
  rcases hd with ⟨_, rfl, _⟩ | ⟨els, rest, rfl, hel, _, hR⟩
  · exact ⟨by simp, Nat.zero_le _⟩
  · simp only [Rows.uptoBulk] at hk
    refine ⟨fun e he => ?_, ?_⟩
    · obtain ⟨i, hi, rfl⟩ := List.getElem_of_mem he
      obtain ⟨x, hx, hle⟩ := hR i _ (List.getElem?_eq_getElem hi)
      exact hle.1
    · have := ents_bulk hR
      omega

theorem cell_of {l : List Value} {n : Nat} (h : n < l.length) : (l.drop n).take 1 = [l[n]] := by
  rw [List.drop_eq_getElem_cons h]; rfl

theorem open_au {fuel : Nat} {cs : List Value} {d : DataW H} {p : List MemPlace} (hl : cs.length = 34) (h : Rd enc Try.prog W fuel 45 cs d p) : ∃ u : Au, RepL (memOf W) u.row cs ∧ u.ok ∧ bytesOk u.a := by
  obtain ⟨y0, y1, y2, y3, y4, y5, n, _, _, h0, h1, h2, h3, h4, h5⟩ := trod_struct6 Try.underlying45 h
  have c4 : Try.prog.cellsOf 41 = 4 := by kernel_rfl
  have c20 : Try.prog.cellsOf 43 = 20 := by kernel_rfl
  have c1 : Try.prog.cellsOf 39 = 1 := by kernel_rfl
  simp only [c4, c20, c1, List.drop_zero] at h0 h1 h2 h3 h4 h5
  obtain ⟨b0, e0, l0, w0⟩ := open_arr (d := y0.1) (p := y0.2) Try.underlying41 Try.underlying39 (by kernel_rfl) (by simp [hl]) h0
  obtain ⟨b1, e1, l1, w1⟩ := open_arr (d := y1.1) (p := y1.2) Try.underlying43 Try.underlying5 (by kernel_rfl) (by simp [hl]) h1
  obtain ⟨b2, e2, _, w2⟩ := DataW.trod_int Try.underlying39 h2
  obtain ⟨b3, e3, _, w3⟩ := DataW.trod_int Try.underlying39 h3
  obtain ⟨b4, e4, l4, w4'⟩ := open_arr (d := y4.1) (p := y4.2) Try.underlying41 Try.underlying39 (by kernel_rfl) (by simp [hl]) h4
  obtain ⟨b5, e5, l5, w5⟩ := open_arr (d := y5.1) (p := y5.2) Try.underlying41 Try.underlying39 (by kernel_rfl) (by simp [hl]) h5
  obtain ⟨n0, hn0, q0⟩ := four b0 l0 w0
  obtain ⟨n2, rfl, hn2⟩ := wfU w2
  obtain ⟨n3, rfl, hn3⟩ := wfU w3
  obtain ⟨n4, hn4, q4⟩ := four b4 l4 w4'
  obtain ⟨n5, hn5, q5⟩ := four b5 l5 w5
  have hcs : cs = w4 n0 ++ (u8s b1 ++ (.int .u64 n2 :: .int .u64 n3 :: (w4 n4 ++ (w4 n5 ++ [])))) := by
    have hd : cs = cs.take 4 ++ ((cs.drop 4).take 20 ++ ((cs.drop 24).take 1 ++ ((cs.drop 25).take 1 ++ ((cs.drop 26).take 4 ++ ((cs.drop 30).take 4 ++ []))))) := by
      refine List.ext_getElem? fun i => ?_
      simp only [List.getElem?_append, List.getElem?_take, List.getElem?_drop, List.length_take, List.length_drop, hl, List.append_nil]
      by_cases h1 : i < 4
      · simp [h1]
      · by_cases h2 : i < 24
        · simp [h1, show i - 4 < 20 by omega, show 4 + (i - 4) = i by omega]
        · by_cases h3 : i < 25
          · simp [h1, show ¬ i - 4 < 20 by omega, show i - 4 - 20 < 1 by omega, show 24 + (i - 4 - 20) = i by omega]
          · by_cases h4 : i < 26
            · simp [h1, show ¬ i - 4 < 20 by omega, show ¬ i - 4 - 20 < 1 by omega, show i - 4 - 20 - 1 < 1 by omega, show 25 + (i - 4 - 20 - 1) = i by omega]
            · by_cases h5 : i < 30
              · simp [h1, show ¬ i - 4 < 20 by omega, show ¬ i - 4 - 20 < 1 by omega, show ¬ i - 4 - 20 - 1 < 1 by omega, show i - 4 - 20 - 1 - 1 < 4 by omega, show 26 + (i - 4 - 20 - 1 - 1) = i by omega]
              · by_cases h6 : i < 34
                · simp [h1, show ¬ i - 4 < 20 by omega, show ¬ i - 4 - 20 < 1 by omega, show ¬ i - 4 - 20 - 1 < 1 by omega, show ¬ i - 4 - 20 - 1 - 1 < 4 by omega, show i - 4 - 20 - 1 - 1 - 4 < 4 by omega, show 30 + (i - 4 - 20 - 1 - 1 - 4) = i by omega]
                · rw [List.getElem?_eq_none (by omega)]
                  simp [h1, show ¬ i - 4 < 20 by omega, show ¬ i - 4 - 20 < 1 by omega, show ¬ i - 4 - 20 - 1 < 1 by omega, show ¬ i - 4 - 20 - 1 - 1 < 4 by omega, show ¬ i - 4 - 20 - 1 - 1 - 4 < 4 by omega]
    rw [hd, e0, e1, e2, e3, e4, e5, q0, q4, q5]
    rfl
  rw [hcs]
  refine ⟨⟨n0, b1, n2, n3, n4, n5⟩, ?_, ⟨hn0, l1, hn2, hn3, hn4, hn5⟩, fun b hb => wfB (w1 b hb)⟩
  refine ⟨rfl, one4 n0, _, rfl, by rw [u8s, List.length_map]; exact l1, one8 b1, _, rfl, _, _, rfl, ⟨rfl, rfl⟩, _, _, rfl, ⟨rfl, rfl⟩, rfl, one4 n4, _, rfl, rfl, one4 n5, [], rfl, rfl⟩

theorem open_aus {fuel : Nat} {v : Value} {d : DataW H} {p : List MemPlace} (h : Rd enc Try.prog W fuel 38 [v] d p) (hk : Rows.uptoBulk d ≤ 1048576) :
    ∃ (us : List Au) (s : List (List PS)), RepV (memOf W) (.sl (us.map Au.row) s) v ∧ (∀ u ∈ us, u.ok ∧ bytesOk u.a) ∧ us.length ≤ 1048576 := by
  obtain ⟨ls, ss, hr, hd⟩ := open_sl (sz := 34) (row := Au.row) (R := fun u _ => u.ok ∧ bytesOk u.a) Try.underlying38 (by kernel_rfl) (by omega) (fun _ => rfl) (fun fuel cs d p hl h => open_au hl h) h
  refine ⟨ls, ss.map Au.row, hr, ?_⟩
  rcases hd with ⟨_, rfl, _⟩ | ⟨els, rest, rfl, hel, _, hR⟩
  · exact ⟨by simp, Nat.zero_le _⟩
  · simp only [Rows.uptoBulk] at hk
    have := bulk_len els
    refine ⟨fun e he => ?_, by omega⟩
    obtain ⟨i, hi, rfl⟩ := List.getElem_of_mem he
    obtain ⟨x, hx, hle⟩ := hR i _ (List.getElem?_eq_getElem hi)
    exact hle
end
end Go.Proofs.Ytgihmigiecfmaaa.opens
