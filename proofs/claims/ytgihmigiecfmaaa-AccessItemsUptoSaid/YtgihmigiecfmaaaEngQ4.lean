/-
  Loads from, stores into own slices whose rows hold own slices.
-/
import Derived.Test.YtgihmigiecfmaaaEngQ3
namespace Go.Eng
open Go Go.RowKit
set_option linter.unusedVariables false

theorem OwnX.all_one' {B : Nat} {m : Mem} {W : World} : ∀ {xs : List (List PS)} {sz : Nat} {C : List Value} {F : List Nat}, OwnX B m W xs sz C F → ∀ w ∈ C, w.oneCell' = true
  | [], _, _, _, h, w, hw => by rw [h.1] at hw; cases hw
  | _ :: _, _, _, _, ⟨u, C', F1, F2, e, _, _, hv, hr⟩, w, hw => by
    subst e
    rcases List.mem_append.1 hw with hw | hw
    · exact hv.all_one w hw
    · exact OwnX.all_one' hr w hw

theorem row_fit0 {B : Nat} {m : Mem} {W : World} {xs : List (List PS)} {sz i : Nat} {C : List Value} {G : List Nat} {row : List PS} (hX : OwnX B m W xs sz C G) (hi : xs[i]? = some row) : i * sz + sz ≤ C.length := by
  have hlt : i < xs.length := (List.getElem?_eq_some_iff.1 hi).1
  rw [hX.length, show i * sz + sz = (i + 1) * sz by rw [Nat.add_mul, Nat.one_mul]]
  exact Nat.mul_le_mul_right _ hlt

theorem adV_own {n : Nat} {x : PV} (h : ownB x = true) : (adV n x).1 = .own n := by
  cases x <;> first | rfl | cases h

theorem tLoadP_spec {P : Program} (hT : TTok P) {B : Nat} {W0 : World} {m0 : Mem} {E : Env} {st : St} {a : Act} {W : World} {o : Oper} {t : TypeId} {p : Operand} {k : SV → St → Prop}
    (h : Sim B W0 m0 E st a W) (ho : o.op = .load t p) (hk : tLoadP arS st t (st.ev 0 p) k) : ∃ sv st' E' v, k sv st' ∧ Sim B W0 m0 E' st' a W ∧ (∀ W', Keeps W W' → (execOp a.eval o).run P W' = .ok (.value v) W') ∧ RepS E' sv v := by
  have hp := RepS.ev h.fr 0 p
  generalize st.ev 0 p = sp at *
  unfold tLoadP at hk
  split at hk
  · rename_i j base sz i off
    split at hk
    · rename_i xs s e sz' by_ lt hj
      split at hk
      · rename_i hc
        obtain ⟨rfl, rfl, hok⟩ := hc
        have hlt := (List.getElem?_eq_some_iff.1 hj).1
        have run : (tt t).d.agg = false → ∀ v, W.cell? ⟨E.ρ j, i * sz + off, none⟩ = some v → ∀ W', Keeps W W' → (execOp a.eval o).run P W' = .ok (.value v) W' := fun hag v hv W' hW => by
          have := run_load_one (P := P) (W := W') (hT.of_ok hok) hag (hW _ _ hv)
          unfold execOp
          simp only [ho, hp.2, Nat.zero_add]
          simp [this]
        have runA : (tt t).d.agg = true → ∀ us : List Value, us.length = (tt t).size → (∀ (q : Nat) (v : Value), us[q]? = some v → W.cell? ⟨E.ρ j, i * sz + off + q, none⟩ = some v) → ∀ W', Keeps W W' → (execOp a.eval o).run P W' = .ok (.value (.agg us.toArray)) W' := fun hag us hul hcell W' hW => by
          obtain ⟨d, hd, hf⟩ := (hT.of_ok hok).desc
          obtain ⟨ti, z, hi, hsz, _⟩ := (hT.of_ok hok).info
          have := run_loadAt_mid (P := P) W' (E.ρ j) (i * sz + off) t us d (fun q v hq => hW _ _ (hcell q v hq)) hd ((fits_agg hf).trans hag) (by rw [hi]; simp [hsz, hul])
          unfold execOp
          simp only [ho, hp.2, Nat.zero_add]
          simp [this]
        have hk' : (∃ q i' off' row', lt = some (i', off', q, row') ∧ (tt t).d.agg = false ∧ i = i' ∧ off = off' ∧ k (.s (.own q)) st) ∨ tLoadM arS st t j xs s e sz by_ i off k := by
          unfold lentOr at hk
          split at hk
          · rcases hk with ⟨h1, h2, h3, h4⟩ | hk
            · exact .inl ⟨_, _, _, _, rfl, h1, h2, h3, h4⟩
            · exact .inr hk
          · exact .inr hk
        rcases hk' with ⟨q, i', off', row', hlt2, hag, rfl, rfl, hkq⟩ | hk2
        · subst hlt2
          obtain ⟨l1, l2, l3, l4, l5⟩ := (h.inv.obs j _ hj).2.2.2 _ _ _ _ rfl
          exact ⟨.s (.own q), st, E, E.ov q, hkq, h, run hag _ l5, l2, rfl, by
            obtain ⟨cap0, cur0, C10, C20, G10, G20, hv0, hg0, hcap0, hcm0, hcs0, hB0, htk0, hX10, hX20, hbl0, h00, hmu0⟩ : _ := ((h.inv.obs j _ hj).treBlk).resolve_left (fun hh => by have := (List.getElem?_eq_some_iff.1 l3).1; rw [hh.2.1] at this; simp at this)
            have hc := l5
            rw [cell_of_row W _ _ _ e (0, 0) hg0] at hc
            have hfit := row_fit0 hX10 l3
            have h9 : C10[i * sz + off]? = some (E.ov q) := by
              have h8 : (C10 ++ C20)[i * sz + off]? = some (E.ov q) := by
                rw [← htk0, List.getElem?_take, if_pos]
                · simpa using hc
                · have := hX10.length
                  have := Nat.mul_le_mul_right sz (show xs.length ≤ xs.length + s.length by omega)
                  omega
              rw [List.getElem?_append_left (by omega)] at h8
              exact h8
            exact hX10.all_one' _ (List.mem_of_getElem? h9)⟩
        replace hk := hk2
        unfold tLoadM at hk
        obtain ⟨row, hrow, hk⟩ := hk
        split at hk
        · rename_i ra m c hpm
          obtain ⟨f, ws, ⟨hwl, hsz⟩, hcells, hL, hfn, hput⟩ := h.inv.treTake hj hrow hpm
          split at hk
          · rename_i hag
            split at hk
            · rename_i x
              obtain ⟨w, ws', F1, F2, ew, eF, hv, hr⟩ := hL
              have e1 : ws' = [] := hr.1
              have e2 : F2 = [] := hr.2
              subst e1; subst e2
              rw [List.append_nil] at eF
              subst eF; subst ew
              have hcell := hcells 0 w rfl
              rw [Nat.add_zero] at hcell
              split at hk
              · rename_i hown
                have hone := hv.oneC
                obtain ⟨E1, g1, g2, g3, i1, hfr, g4, g5⟩ := hput [.c (.v w)] (by simpa [rlen, PS.len] using hwl) ⟨w, [], [], [], rfl, rfl, ⟨rfl, by rw [RepV]; exact ⟨rfl, hone⟩⟩, rfl, rfl⟩
                rw [← g2] at hv
                obtain ⟨E2, a1, r1⟩ := adV_spec (B := B) (Nat.le_refl B) i1 hfr hfn hv
                rw [List.length_set] at a1 r1
                have r2 := r1
                rw [adV_own hown] at r2
                have hjn : j < E1.n := by rw [g3, h.inv.n]; exact hlt
                have hilt := (List.getElem?_eq_some_iff.1 hrow).1
                have hobj : ((st.ob.set j (.tre (xs.set i (ra ++ ([.c (.v w)] ++ c))) s e sz by_ none)) ++ (adV st.ob.length x).2)[j]? = some (.tre (xs.set i (ra ++ ([.c (.v w)] ++ c))) s e sz by_ none) := by
                  rw [List.getElem?_append_left (by simpa using hlt)]; simp [hlt]
                have hbl : E2.ρ j ∈ E2.bl j := by
                  rcases (a1.inv.obs j _ hobj).treBlk with ⟨_, hn, _⟩ | ⟨_, _, _, _, _, _, _, _, _, _, _, _, _, _, _, hbl, _⟩
                  · have : (xs.set i (ra ++ ([.c (.v w)] ++ c))).length = 0 := by rw [hn]; rfl
                    rw [List.length_set] at this; omega
                  · rw [hbl]; simp
                have i2 := a1.inv.treLend (j := j) (i := i) (off := off) (q := st.ob.length) (row := ra ++ ([.c (.v w)] ++ c)) hobj (by simp at hwl; omega) r2.1 (by
                  rw [List.getElem?_set_self hilt]) hbl (by
                  rw [a1.le.ρ j hjn, g5, ← r2.2.1]; exact hcell)
                rw [set_append_left' (by simpa using hlt), List.set_set] at i2
                refine ⟨_, _, E2, w, hk w, ⟨i2, (h.fr.mono g1).mono a1.le, h.below, fun b o w hm => ?_, ?_, h.defers⟩, run hag w hcell, r1⟩
                · rw [a1.μ, g2] at hm; exact h.grew b o w hm
                · rw [a1.μ, g2]; exact h.had
              · rename_i hown
                exact ⟨_, st, E, w, hk, h, run hag w hcell, pvcell_spec hv (fun a b c d e => by rw [e] at hown; cases hown) (fun a s b c d e => by rw [e] at hown; cases hown)⟩
            · exact hk.elim
          · rename_i hag
            split at hk
            · rename_i hown
              obtain ⟨bw, hbw⟩ := hL.blank
              have hbw := hbw 0
              obtain ⟨E1, g1, g2, g3, i1, hfr, g4, g5⟩ := hput _ (by rw [rlen_blank, ← hL.length, hwl]) hbw
              rw [← g2] at hL
              obtain ⟨E2, a1, r1⟩ := adL_spec (B := B) (Nat.le_refl B) i1 hfr hfn hL
              rw [List.length_set] at a1 r1
              refine ⟨_, _, E2, .agg ws.toArray, hk (fun q => bw (q - 0)), ⟨a1.inv, (h.fr.mono g1).mono a1.le, h.below, fun b o w hm => ?_, ?_, h.defers⟩, runA hag ws hwl hcells, ws, rfl, r1⟩
              · rw [a1.μ, g2] at hm; exact h.grew b o w hm
              · rw [a1.μ, g2]; exact h.had
            · rename_i hown
              have hrep := OwnL.rep hown hL
              exact ⟨_, st, E, .agg ws.toArray, hk, h, runA hag ws hwl hcells, ws, rfl, RepG.of_pure hrep⟩
        · split at hk
          · rename_i hag
            split at hk
            · rename_i us q hf
              obtain ⟨v, hs, hk⟩ := hk
              have hs := hs trivial
              have hoj := h.inv.obs j _ hj
              rcases hoj.treBlk with ⟨_, hn, _⟩ | ⟨cap, cur, C1, C2, G1, G2, hv, hg, hcap, hcm, hcs, hB, htk, hX1, hX2, hbl, h0, hmu⟩
              · rw [hn] at hrow; simp at hrow
              · obtain ⟨A, f, D, w0, h1, h2, h3, h4, h5⟩ := hX1.at hrow
                obtain ⟨p1, p2, p3⟩ := h3.pfind hf
                have hv0 : w0[off]? = some v := p1.trans hs
                have hlen : w0.length = sz := by rw [h3.length, h2]
                have hcell : W.cell? ⟨E.ρ j, i * sz + off, none⟩ = some v := tre_cell (k := j) (E := E) (W := W) hg htk (by rw [h4 off (by omega)]; exact hv0) (xs := xs) (s := s) (by_ := by_) (cap := cap) (sz := sz) (B := B)
                exact ⟨_, st, E, v, hk, h, run hag v hcell, by
                  show RepV E.μ (.v v) v
                  rw [RepV]; exact ⟨rfl, p2 v (List.mem_of_getElem? hs)⟩⟩
            · exact hk.elim
          · exact hk.elim
      · exact hk.elim
    · exact hk.elim
  · exact hk.elim

end Go.Eng
