/-
  Slices that are made; copies.
-/
import Derived.Test.YtgihmigiecfmaaaEngK
namespace Go.Eng
open Go Go.RowKit

theorem flat_get (z : Array Value) : ∀ (n q : Nat), (if q < n * z.size then some (z[q % z.size]!) else none) = (List.replicate n z.toList).flatten[q]?
  | 0, q => by simp
  | n + 1, q => by
    rw [List.replicate_succ, List.flatten_cons, List.getElem?_append]
    by_cases hq : q < z.size
    · have hq' : q < (n + 1) * z.size := by rw [Nat.add_mul]; omega
      simp [hq, hq', Nat.mod_eq_of_lt hq]
    · have e : (q < (n + 1) * z.size) ↔ (q - z.size < n * z.size) := by rw [Nat.add_mul]; omega
      have e2 : q % z.size = (q - z.size) % z.size := by rw [Nat.mod_eq_sub_mod (by omega)]
      have ih := flat_get z n (q - z.size)
      have hq3 : ¬ q < z.toList.length := hq
      rw [if_neg hq3, show q - z.toList.length = q - z.size from rfl, ← ih]
      by_cases hq2 : q - z.size < n * z.size
      · rw [if_pos (e.2 hq2), if_pos hq2, e2]
      · rw [if_neg (fun h => hq2 (e.1 h)), if_neg hq2]

theorem madeCells_flat (z : Array Value) (n : Nat) : (madeCells z (n * z.size)).toList = (List.replicate n z.toList).flatten := by
  refine List.ext_getElem? fun q => ?_
  rw [← flat_get]
  by_cases hq : q < n * z.size
  · simp [madeCells, hq]
  · rw [if_neg hq]
    exact List.getElem?_eq_none (by simp [madeCells]; omega)

theorem RepX.replicate {m : Mem} {x : List PS} {sz : Nat} {cs : List Value} (h : RepL m x cs) (hl : rlen x = sz) : ∀ n : Nat, RepX m (List.replicate n x) sz (List.replicate n cs).flatten
  | 0 => rfl
  | n + 1 => by
    rw [List.replicate_succ, List.replicate_succ, List.flatten_cons]
    exact ⟨cs, _, rfl, hl, h, RepX.replicate h hl n⟩

def makeP (ar : Ar) (st : St) (t : TypeId) (l c : SV) (k : SV → St → Prop) : Prop :=
  match (tt t).d with
  | .slice e => if (tt e).d.ok = true ∧ 0 < (tt e).size then
      match l with
      | .s cl => match intOf cl with
        | some (_, n, _) => match c with
          | .s cc => match intOf cc with
            | some (_, n', _) => ∃ q : Nat, (True → n = q ∧ n' = q ∧ (tt e).bytes * q ≤ 281474976710656 ∧ q ≤ maxLen) ∧ k (.s (.own st.ob.length)) ⟨st.fr, st.ob ++ [.arr (ar.rep q (tt e).zero) e (tt e).size (tt e).bytes true]⟩
            | none => False
          | _ => False
        | none => False
      | _ => False
    else False
  | _ => False

theorem makeP_spec {c0 : Bool} {P : Program} (hT : TTok P) {B : Nat} {W0 : World} {m0 : Mem} {E : Env} {st : St} {a : Act} {W : World} {o : Oper} {t : TypeId} {l c : Operand} {k : SV → St → Prop} {next : Act → World → Prop} {Q : Exit → Act → World → Prop}
    (h : Sim B W0 m0 E st a W) (ho : o.op = .makeSlice t l c) (hk : makeP arS st t (st.ev 0 l) (st.ev 0 c) k) (hn : Nexts c0 B W0 m0 a W o next k) : o.wp P a W next Q := by
  have hl := RepS.ev h.fr 0 l
  have hc := RepS.ev h.fr 0 c
  generalize st.ev 0 l = sl at *
  generalize st.ev 0 c = sc at *
  unfold makeP at hk
  split at hk
  · rename_i e hd
    obtain ⟨d, hd1, hd2⟩ := (hT.of_ok (t := t) (by rw [hd]; rfl)).desc
    rw [hd] at hd2
    cases d <;> try exact False.elim hd2
    cases hd2
    split at hk
    · rename_i hcnd
      split at hk
      · rename_i cl
        split at hk
        · rename_i k1 n b1 h1
          split at hk
          · rename_i cc
            split at hk
            · rename_i k2 n' b2 h2
              obtain ⟨q, hside, hk⟩ := hk
              obtain ⟨rfl, rfl, hby, hmx⟩ := hside trivial
              have e1 := intOf_spec hl h1
              have e2 := intOf_spec hc h2
              obtain ⟨ti, z, hti, hs1, hs2, hz, hzv, hzs⟩ := (hT.of_ok hcnd.1).info
              obtain ⟨W', hrun, hown, hg⟩ := run_make_full (P := P) W B t e ti z (tt e).size hd1 hti hz hs1 k1 k2 q (by rw [hs2]; exact hby) hmx h.inv.size
              have hE := E.le_push W.heap.size (.slice (some ⟨W.heap.size, 0, none⟩) q q)
              have hov : (E.push W.heap.size (.slice (some ⟨W.heap.size, 0, none⟩) q q)).ov E.n = .slice (some ⟨W.heap.size, 0, none⟩) q q := by simp [Env.push]
              have hρ : (E.push W.heap.size (.slice (some ⟨W.heap.size, 0, none⟩) q q)).ρ E.n = W.heap.size := by simp [Env.push]
              have hi := h.inv.add (b := W.heap.size) (v := .slice (some ⟨W.heap.size, 0, none⟩) q q) (o := .arr (arS.rep q (tt e).zero) e (tt e).size (tt e).bytes true) hg ?_ ?_
              · rw [← show E.n = st.ob.length from h.inv.n] at hk
                refine wp_value (w' := W') (v := .slice (some ⟨W.heap.size, 0, none⟩) q q) ?_ (hn _ _ _ _ _ hk ⟨hi, h.fr.mono hE, h.below.grown hg h.inv.size (fun g e => by cases e), h.grew, h.had, h.defers⟩ ⟨Nat.lt_succ_self _, hov.symm, rfl⟩ fun _ => Keeps.grown hg)
                unfold execOp
                simp only [ho, e1, e2]
                simp [hrun]
              · refine ⟨hcnd.2, _, by rw [hov]; simpa [arS] using hown, ?_, fun g hgb => ?_⟩
                · rw [← hzs, madeCells_flat]
                  refine RepX.replicate (RepL.zero hzv) ?_ q
                  have := (RepL.zero (m := E.μ) hzv).length
                  rw [← this]; simp
                · rw [hov] at hgb
                  cases hgb
                  exact ⟨hρ.symm, fun o _ => mu_lt h.inv (Nat.le_refl _) o, fun e => by cases e⟩
              · intro g hgb
                simp only [Wb, hov] at hgb
                cases hgb
                exact Nat.le_refl _
            · exact hk.elim
          · exact hk.elim
        · exact hk.elim
      · exact hk.elim
    · exact hk.elim
  · exact hk.elim

/-! ### copy -/
theorem run_copy_wide {P : Program} (w : World) (dT sT ty elem : TypeId) (g dLen dCap : Nat) (a : Addr) (sLen sCap n : Nat) (cur : Array Value) (t : TypeId) (cs : List Value) (i : TypeInfo)
    (hu : P.underlying dT = some (.slice elem)) (hi : P.info? elem = some i) (hg : w.heap[g]? = some (.cells cur t (0, 0))) (hn : n = min sLen dLen) (hl : cs.length = n * i.size)
    (hsrc : ∀ j v, cs[j]? = some v → w.cell? (a.add j) = some v) (hfit : cs.length ≤ cur.size) (h1 : ∀ v ∈ cs, v.oneCell' = true) :
    (Builtin.copy_ #[dT, sT] ty #[.slice (some ⟨g, 0, none⟩) dLen dCap, .slice (some a) sLen sCap]).run P w =
      .ok (goInt n) (w.setRow g (cs ++ cur.toList.drop cs.length).toArray) := by
  have h2 := run_firstCells_some (P := P) w i.size n a sLen sCap cs hl hsrc
  have hst := run_storeCells_at P g 0 t cs 0 cur w hg (by simpa using hfit) h1
  simp only [Nat.zero_add, Nat.add_zero, List.take_zero, List.nil_append] at hst
  simp [Builtin.copy_, run_underlying hu, Builtin.lenOf, sizeOf, typeInfo, hi, show Nat.min sLen dLen = n from hn.symm, h2, hst]

theorem run_copy_zero {P : Program} (w : World) (dT sT ty elem : TypeId) (d a : Option Addr) (dLen dCap sLen sCap : Nat) (i : TypeInfo) (hu : P.underlying dT = some (.slice elem)) (hi : P.info? elem = some i) (hn : min sLen dLen = 0) :
    (Builtin.copy_ #[dT, sT] ty #[.slice d dLen dCap, .slice a sLen sCap]).run P w = .ok (goInt 0) w := by
  cases a <;> cases d <;> simp [Builtin.copy_, run_underlying hu, Builtin.lenOf, Builtin.firstCells, sizeOf, typeInfo, hi, show Nat.min sLen dLen = 0 from hn, loadCells, loadCellsFrom, storeCells]

def copyP (ar : Ar) (st : St) (t : TypeId) (d x : SV) (k : SV → St → Prop) : Prop :=
  match (tt t).d with
  | .slice e => if (tt e).d.ok = true then
      match d with
      | .s (.own j) => match x.use ar st.ob with
        | some (.s (.sl ys _), ob') => match ob'[j]? with
          | some (.arr xs e' sz by_ wr) => match wr with
            | true => if sz = (tt e).size ∧ e' = e then (True → ∀ y ∈ ys, rlen y = (tt e).size) ∧ k (.s (.p (.v (.int .i64 (ar.min (ar.len ys) (ar.len xs)))))) ⟨st.fr, ob'.set j (.arr (ar.cpy xs ys) e' sz by_ true)⟩ else False
            | false => False
          | _ => False
        | _ => False
      | _ => False
    else False
  | _ => False

theorem copyP_spec {P : Program} (hT : TTok P) {B : Nat} {W0 : World} {m0 : Mem} {E : Env} {st : St} {a : Act} {W : World} {o : Oper} {t t' : TypeId} {d x : Operand} {k : SV → St → Prop} {next : Act → World → Prop} {Q : Exit → Act → World → Prop}
    (h : Sim B W0 m0 E st a W) (ho : o.op = .call { callee := .builtin .copy, args := #[d, x], argTypes := #[t, t'] }) (hk : copyP arS st t (st.ev 0 d) (st.ev 0 x) k) (hn : Nexts false B W0 m0 a W o next k) : o.wp P a W next Q := by
  have hd := RepS.ev h.fr 0 d
  have hx := RepS.ev h.fr 0 x
  generalize st.ev 0 d = sd at *
  generalize st.ev 0 x = sx at *
  have fin : ∀ v W', (Builtin.copy_ #[t, t'] o.type #[a.eval d, a.eval x]).run P W = .ok v W' → next (a.put o.dst v) W' → o.wp P a W next Q := fun v W' hr hnx => by
    refine wp_value (w' := W') (v := v) ?_ hnx
    unfold execOp
    simp only [ho]
    simp [resolve, invoke, builtin, hr]
  unfold copyP at hk
  split at hk
  · rename_i e hdd
    obtain ⟨dd, hd1, hd2⟩ := (hT.of_ok (t := t) (by rw [hdd]; rfl)).desc
    rw [hdd] at hd2
    cases dd <;> try exact False.elim hd2
    cases hd2
    split at hk
    · rename_i hok
      split at hk
      · rename_i j
        split at hk
        · rename_i ys sp ob' hu
          obtain ⟨E1, e1, i1, r1⟩ := SV.use_spec h.inv hx hu
          have h1 := h.ext e1 i1
          have hd3 := hd.mono e1.le
          split at hk
          · rename_i xs e' sz by_ wr hj
            split at hk
            · split at hk
              · rename_i hc
                obtain ⟨rfl, rfl⟩ := hc
                obtain ⟨hside, hk⟩ := hk
                have hrl := hside trivial
                obtain ⟨ti, z, hti, hs1, _⟩ := (hT.of_ok hok).info
                have hr1 : RepV E1.μ (.sl ys sp) (a.eval x) := r1
                rw [RepV] at hr1
                obtain ⟨ad, cap, ew, hcap, hel⟩ := hr1
                have hlt := (List.getElem?_eq_some_iff.1 hj).1
                have same : min ys.length xs.length = 0 → o.wp P a W next Q := fun h0 => by
                  have ex : ∃ b n c, a.eval d = .slice b n c ∧ n = xs.length := by
                    rcases (i1.obs j _ hj).arrBlk with ⟨hv, hn0⟩ | ⟨cap', cur, hv, _⟩
                    · exact ⟨none, 0, 0, by rw [hd3.2.1, hv], by rw [hn0]; rfl⟩
                    · exact ⟨_, _, _, by rw [hd3.2.1, hv], rfl⟩
                  obtain ⟨b, n, c, ed, rfl⟩ := ex
                  refine fin _ W (by rw [ed, ew]; exact run_copy_zero W t t' o.type e' b ad _ _ _ _ ti hd1 hti h0) (hn _ _ E1 _ _ hk ⟨?_, h1.fr, h1.below, h1.grew, h1.had, h1.defers⟩ ?_ (fun e => by cases e))
                  · have ec : arS.cpy xs ys = xs := by
                      simp only [arS]
                      rcases Nat.le_total ys.length xs.length with hle | hle
                      · rw [Nat.min_eq_left hle] at h0
                        rw [List.eq_nil_of_length_eq_zero h0]; simp
                      · rw [Nat.min_eq_right hle] at h0
                        rw [List.eq_nil_of_length_eq_zero h0]; simp
                    rw [ec]
                    have : ob'.set j (.arr xs e' (tt e').size by_ true) = ob' := by
                      refine List.ext_getElem? fun q => ?_
                      rw [List.getElem?_set]
                      split
                      · rename_i hq; subst hq; first | exact hj.symm | rw [if_pos hlt, hj]
                      · rfl
                    rw [this]; exact i1
                  · refine ⟨?_, rfl⟩
                    simp only [arS, goInt]
                    congr 1
                    omega
                by_cases h0 : min ys.length xs.length = 0
                · exact same h0
                · rcases hel with ⟨e0, _⟩ | ⟨b, off, sz', rfl, hE, _⟩
                  · rw [e0] at h0; simp at h0
                  · have hpos : 0 < ys.length := by rcases Nat.eq_zero_or_pos ys.length with h' | h'; · rw [h'] at h0; simp at h0
                                                    · exact h'
                    have hszz : sz' = (tt e').size := by
                      have hx0 : ys[0]? = some (ys[0]'hpos) := List.getElem?_eq_getElem _
                      rw [← (hE.get 0 _ hx0).1]
                      exact hrl _ (List.mem_of_getElem? hx0)
                    subst hszz
                    obtain ⟨news, hX, hnews⟩ := hE.toX
                    rcases (i1.obs j _ hj).arrBlk with ⟨hv, hn0⟩ | ⟨cap', cur, hv, hg, hnc, hcsz, hXx, hcm, hB⟩
                    · rw [hn0] at h0; simp at h0
                    · have hXt := hX.take (min ys.length xs.length)
                      have hXt' : RepX E1.μ (ys.take xs.length) (tt e').size (news.take (min ys.length xs.length * (tt e').size)) := by
                        have : ys.take xs.length = ys.take (min ys.length xs.length) := by
                          rcases Nat.le_total ys.length xs.length with hle | hle
                          · rw [List.take_of_length_le hle, List.take_of_length_le (by rw [Nat.min_eq_left hle]; exact Nat.le_refl _)]
                          · rw [Nat.min_eq_right hle]
                        rw [this]; exact hXt
                      have hcl : (news.take (min ys.length xs.length * (tt e').size)).length = min ys.length xs.length * (tt e').size := by
                        rw [hXt'.length, List.length_take]
                        congr 1
                        exact Nat.min_comm _ _
                      generalize hcs : news.take (min ys.length xs.length * (tt e').size) = cs at *
                      have hle2 : min ys.length xs.length * (tt e').size ≤ xs.length * (tt e').size := Nat.mul_le_mul_right _ (Nat.min_le_right _ _)
                      have hle3 : xs.length * (tt e').size ≤ cur.size := by rw [hcsz]; exact Nat.mul_le_mul_right _ hnc
                      have hrun := run_copy_wide (P := P) W t t' o.type e' (E1.ρ j) xs.length cap' ⟨b, off, none⟩ ys.length cap (min ys.length xs.length) cur e' cs ti hd1 hti hg rfl (by rw [hcl, hs1])
                        (fun q v hq => by
                          rw [Addr.add_mid]
                          refine i1.mu _ _ _ (hnews q v ?_)
                          rw [← hcs, List.getElem?_take] at hq
                          split at hq
                          · exact hq
                          · cases hq) (by omega) hXt'.all_oneCell
                      refine fin _ _ (by rw [hd3.2.1, hv, ew]; exact hrun) (hn _ _ E1 _ _ hk ⟨?_, h1.fr, below_setRow h1.below hB _, h1.grew, h1.had, h1.defers⟩ ?_ (fun e => by cases e))
                      · refine i1.setArr hj hv hg (by simp [arS]; omega) (by simp; omega) ?_
                        have e2 : (cs ++ cur.toList.drop cs.length).take (xs.length * (tt e').size) = cs ++ (cur.toList.take (xs.length * (tt e').size)).drop (min ys.length xs.length * (tt e').size) := by
                          have := splice_take cur.toList cs 0 (xs.length * (tt e').size) (by omega) hle3
                          simp only [List.take_zero, List.nil_append, Nat.zero_add] at this
                          rw [this, hcl]
                        rw [e2]
                        have e3 : arS.cpy xs ys = ys.take xs.length ++ xs.drop (min ys.length xs.length) := by
                          simp only [arS]
                          congr 1
                          rcases Nat.le_total ys.length xs.length with hle | hle
                          · rw [Nat.min_eq_left hle]
                          · rw [Nat.min_eq_right hle, List.drop_of_length_le hle, List.drop_of_length_le (Nat.le_refl _)]
                        rw [e3]
                        exact hXt'.append (hXx.drop _)
                      · refine ⟨?_, rfl⟩
                        simp only [arS, goInt]
                        congr 1
                        omega
              · exact hk.elim
            · exact hk.elim
          · exact hk.elim
        · exact hk.elim
      · exact hk.elim
    · exact hk.elim
  · exact hk.elim

end Go.Eng
