/-
  From the reading of the arguments to plain data: slices and arrays of numbers.
-/
import Derived.Test.YtgihmigiecfmaaaEngA
import Derived.ChangeArms
import Derived.DataReads
import Derived.Deep.Slices
namespace Go.Eng
open Go Go.RowKit

theorem list_of {α : Type} {p : Nat → α → Prop} : ∀ n : Nat, (∀ i, i < n → ∃ a, p i a) → ∃ l : List α, l.length = n ∧ ∀ i a, l[i]? = some a → p i a
  | 0, _ => ⟨[], rfl, by simp⟩
  | n + 1, h => by
    obtain ⟨l, hl, hp⟩ := list_of n fun i hi => h i (Nat.lt_succ_of_lt hi)
    obtain ⟨a, ha⟩ := h n (Nat.lt_succ_self n)
    refine ⟨l ++ [a], by simp [hl], fun i x hx => ?_⟩
    rw [List.getElem?_append] at hx
    split at hx
    · exact hp i x hx
    · rename_i hi
      have : i = n := by
        have := (List.getElem?_eq_some_iff.1 hx).1
        simp at this
        omega
      subst this
      rw [hl, Nat.sub_self] at hx
      cases hx
      exact ha

theorem spot_of {W : World} {a : Addr} {v : Value} (h : W.cell? a = some v) : a = ⟨a.block, a.off, none⟩ := by
  obtain ⟨b, o, s⟩ := a
  cases s with
  | none => rfl
  | some s =>
    simp only [World.cell?] at h
    split at h
    · simp at h
    · cases h

section
variable {H : Type} {enc : TypeId × Value → H} {P : Program} {W : World}

abbrev Rd (enc : TypeId × Value → H) (P : Program) (W : World) (fuel : Nat) (t : TypeId) (cs : List Value) (d : DataW H) (p : List MemPlace) : Prop := DataW.trod enc P W 0 (fun _ => true) true fuel t cs = some (d, p)

theorem trod_array {t e : TypeId} {n fuel : Nat} {cs : List Value} {x : DataW H × List MemPlace} (ht : P.underlying t = some (.array n e)) (h : DataW.trod enc P W 0 (fun _ => true) true fuel t cs = some x) :
    ∃ (xs : List (DataW H × List MemPlace)) (m : Nat), x = (.agg (xs.map (·.1)), xs.flatMap (·.2)) ∧ cs.length = P.cellsOf t ∧ xs.length = n ∧
      ∀ i, i < n → DataW.trod enc P W 0 (fun _ => true) true m e ((cs.drop (i * P.cellsOf e)).take (P.cellsOf e)) = xs[i]? := by
  cases fuel with
  | zero => simp [DataW.trod] at h
  | succ m =>
    unfold DataW.trod at h
    rw [ht] at h
    split at h <;> simp_all
    obtain ⟨hl, xs, hp, hd⟩ := h
    exact ⟨xs, hd.symm, by simpa using mapM_some_length hp, m, fun i hi => mapM_some_get hp i i (by simp [hi])⟩

theorem open_arr {t e : TypeId} {n : Nat} {k : IntKind} {fuel : Nat} {cs : List Value} {d : DataW H} {p : List MemPlace} (ht : P.underlying t = some (.array n e)) (he : P.underlying e = some (.int k)) (hc : P.cellsOf e = 1) (hl : cs.length = n)
    (h : Rd enc P W fuel t cs d p) : ∃ bs : List Int, cs = bs.map (.int k) ∧ bs.length = n ∧ ∀ b ∈ bs, (Lit.int k b).wf = true := by
  obtain ⟨xs, m, _, _, hxl, hg⟩ := trod_array ht h
  have key : ∀ i, i < n → ∃ b : Int, cs[i]? = some (.int k b) ∧ (Lit.int k b).wf = true := fun i hi => by
    have hg := hg i hi
    rw [hc, Nat.mul_one, List.getElem?_eq_getElem (by omega)] at hg
    obtain ⟨b, hb, _, hw⟩ := DataW.trod_int he hg
    refine ⟨b, ?_, hw⟩
    have := congrArg (fun l => l[0]?) hb
    simpa [List.getElem?_take, List.getElem?_drop] using this
  obtain ⟨bs, hbl, hbs⟩ := list_of n key
  refine ⟨bs, ?_, hbl, fun b hb => ?_⟩
  · refine List.ext_getElem? fun i => ?_
    rw [List.getElem?_map]
    rcases Nat.lt_or_ge i n with hi | hi
    · rw [(hbs i (bs[i]'(by omega)) (List.getElem?_eq_getElem _)).1, List.getElem?_eq_getElem (show i < bs.length by omega)]; rfl
    · rw [List.getElem?_eq_none (by omega), List.getElem?_eq_none (by omega)]; rfl
  · obtain ⟨i, hi, rfl⟩ := List.getElem_of_mem hb
    exact (hbs i _ (List.getElem?_eq_getElem hi)).2

theorem open_sl {α : Type} {row : α → List PS} {R : α → DataW H → Prop} {t e : TypeId} {sz fuel : Nat} {v : Value} {d : DataW H} {p : List MemPlace} (ht : P.underlying t = some (.slice e)) (hsz : P.cellsOf e = sz) (hpos : 0 < sz) (hrl : ∀ a, rlen (row a) = sz)
    (hel : ∀ fuel cs d p, cs.length = sz → Rd enc P W fuel e cs d p → ∃ a, RepL (memOf W) (row a) cs ∧ R a d) (h : Rd enc P W fuel t [v] d p) :
    ∃ as ss : List α, RepV (memOf W) (.sl (as.map row) (ss.map row)) v ∧ ((d = .nil ∧ as = [] ∧ ss = []) ∨ ∃ els rest : List (DataW H), d = .slice els rest ∧ els.length = as.length ∧ rest.length = ss.length ∧ ∀ (i : Nat) (a : α), as[i]? = some a → ∃ x, els[i]? = some x ∧ R a x) := by
  rcases DataW.trod_slice ht h with ⟨hv, hx⟩ | ⟨a, len, cap, elems, rest, n, _, hv, hx, hb, hlc, hcm, hlen, hE, hS, _⟩
  · simp only [List.cons.injEq, and_true] at hv
    simp only [Prod.mk.injEq] at hx
    subst hv
    refine ⟨[], [], ?_, .inl ⟨hx.1, rfl, rfl⟩⟩
    rw [RepV]
    exact ⟨none, 0, rfl, Nat.le_refl _, .inl ⟨rfl, rfl⟩⟩
  · simp only [List.cons.injEq, and_true] at hv
    simp only [Prod.mk.injEq] at hx
    subst hv
    obtain ⟨hrest, hS⟩ := hS rfl
    rw [hsz] at hE hS
    have one : ∀ (q : Nat) (y : Option (DataW H × List MemPlace)), (∃ z, y = some z) → (W.cells? 0 (a.add (q * sz)) sz).bind (DataW.trod enc P W 0 (fun _ => true) true n e) = y →
        ∃ (x : α) (cs : List Value) (z : DataW H × List MemPlace), y = some z ∧ RepL (memOf W) (row x) cs ∧ R x z.1 ∧ ∀ j u, cs[j]? = some u → W.cell? ((a.add (q * sz)).add j) = some u := fun q y ⟨z, hz⟩ hbind => by
      subst hz
      obtain ⟨cs, h1, h2⟩ := Option.bind_eq_some_iff.1 hbind
      obtain ⟨_, hcl, hcell⟩ := World.cells?_some h1
      obtain ⟨x, hL, hR⟩ := hel n cs z.1 z.2 hcl h2
      refine ⟨x, cs, z, rfl, hL, hR, fun j u hj => ?_⟩
      rw [hcell j (by have := (List.getElem?_eq_some_iff.1 hj).1; omega)]
      exact hj
    obtain ⟨as, hal, has⟩ := list_of (p := fun i (x : α) => ∃ (cs : List Value) (z : DataW H × List MemPlace), elems[i]? = some z ∧ RepL (memOf W) (row x) cs ∧ R x z.1 ∧ ∀ j u, cs[j]? = some u → W.cell? ((a.add (i * sz)).add j) = some u) len fun i hi => by
      obtain ⟨x, cs, z, h1, h2⟩ := one i _ ⟨_, List.getElem?_eq_getElem (show i < elems.length by omega)⟩ (hE i hi)
      exact ⟨x, cs, z, h1, h2⟩
    obtain ⟨ss, hsl, hss⟩ := list_of (p := fun i (x : α) => ∃ (cs : List Value) (z : DataW H × List MemPlace), rest[i]? = some z ∧ RepL (memOf W) (row x) cs ∧ R x z.1 ∧ ∀ j u, cs[j]? = some u → W.cell? ((a.add ((len + i) * sz)).add j) = some u) (cap - len) fun i hi => by
      obtain ⟨x, cs, z, h1, h2⟩ := one (len + i) _ ⟨_, List.getElem?_eq_getElem (show i < rest.length by omega)⟩ (hS i hi)
      exact ⟨x, cs, z, h1, h2⟩
    refine ⟨as, ss, ?_, .inr ⟨elems.map (·.1), rest.map (·.1), hx.1, by simp [hlen, hal], by simp [hrest, hsl], fun i x hi => ?_⟩⟩
    · rw [RepV]
      refine ⟨some a, cap, by simp [hal], by simp [hal, hsl]; omega, ?_⟩
      by_cases h0 : cap = 0
      · exact .inl ⟨by simp; exact List.eq_nil_of_length_eq_zero (by omega), by simp; exact List.eq_nil_of_length_eq_zero (by omega)⟩
      · have hspot : a = ⟨a.block, a.off, none⟩ := by
          have first : ∀ (x : α) (cs : List Value), RepL (memOf W) (row x) cs → (∀ j u, cs[j]? = some u → W.cell? ((a.add 0).add j) = some u) → a = ⟨a.block, a.off, none⟩ := fun x cs hL hc => by
            have hcl : cs.length = sz := by rw [hL.length, hrl]
            have := hc 0 (cs[0]'(by omega)) (List.getElem?_eq_getElem _)
            exact spot_of (show W.cell? a = _ from this)
          by_cases hl0 : len = 0
          · obtain ⟨cs, z, _, hL, _, hc⟩ := hss 0 (ss[0]'(by omega)) (List.getElem?_eq_getElem _)
            exact first _ cs hL (by simpa [hl0] using hc)
          · obtain ⟨cs, z, _, hL, _, hc⟩ := has 0 (as[0]'(by omega)) (List.getElem?_eq_getElem _)
            exact first _ cs hL (by simpa using hc)
        have hadd : ∀ (q : Nat) (cs : List Value), (∀ j u, cs[j]? = some u → W.cell? ((a.add (q * sz)).add j) = some u) → ∀ j u, cs[j]? = some u → memOf W a.block (a.off + q * sz + j) = some u := fun q cs hc j u hj => by
          have := hc j u hj
          rw [hspot, Addr.add_mid, Addr.add_mid] at this
          exact this
        refine .inr ⟨a.block, a.off, sz, by rw [← hspot], ?_, ?_⟩
        · refine RepE.of_get fun i x hi => ?_
          rw [List.getElem?_map, Option.map_eq_some_iff] at hi
          obtain ⟨y, hy, rfl⟩ := hi
          obtain ⟨cs, z, _, hL, _, hc⟩ := has i y hy
          exact ⟨hrl y, RepC.of_values hL (hadd i cs hc)⟩
        · refine RepE.of_get fun i x hi => ?_
          rw [List.getElem?_map, Option.map_eq_some_iff] at hi
          obtain ⟨y, hy, rfl⟩ := hi
          obtain ⟨cs, z, _, hL, _, hc⟩ := hss i y hy
          refine ⟨hrl y, RepC.of_values hL fun j u hj => ?_⟩
          have := hadd (len + i) cs hc j u hj
          rw [show a.off + (as.map row).length * sz + i * sz + j = a.off + (len + i) * sz + j by simp [hal, Nat.add_mul]; omega]
          exact this
    · obtain ⟨cs, z, hz, _, hR, _⟩ := has i x hi
      exact ⟨z.1, by simp [hz], hR⟩

end
end Go.Eng
