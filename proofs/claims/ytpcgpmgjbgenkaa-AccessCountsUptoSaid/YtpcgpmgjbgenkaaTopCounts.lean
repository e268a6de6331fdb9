/-
  AccessCounts returns true at every access list, address and key of bulk at most 1048576, and each argument reads afterwards as it read before.
-/
import Derived.Test.YtpcgpmgjbgenkaaA8
import Derived.Test.YtpcgpmgjbgenkaaEngR
import Derived.Test.YtpcgpmgjbgenkaaRows
import Derived.WalkKit
import Derived.ProofKit
import Derived.OpenShut
import Derived.JoinedCond
import Derived.Below
import Derived.Carry
namespace Go.Proofs.Ytpcgpmgjbgenkaa.accessCounts
open Go.ChangeShapes Go.WideShapes Go.ChangeAt Go.RowKit Go.Eng

theorem own : ownKnob Try.prog.godebug = none := by kernel_rfl
theorem laidOut : laidOutB Try.prog = true := by kernel_rfl

theorem bulk_len {H : Type} (l : List (DataW H)) : l.length ≤ Rows.uptoBulkAll l := by
  induction l with
  | nil => simp [Rows.uptoBulkAll]
  | cons x r ih =>
    have h1 : 1 ≤ Rows.uptoBulk x := by
      cases x with
      | lit l => cases l <;> simp [Rows.uptoBulk]
      | _ => simp [Rows.uptoBulk]
    simp only [Rows.uptoBulkAll, List.length_cons]
    omega

theorem bulk_part {H : Type} {d : DataW H} {l : List (DataW H)} (h : d ∈ l) : Rows.uptoBulk d ≤ Rows.uptoBulkAll l := by
  induction l with
  | nil => cases h
  | cons x r ih =>
    simp only [Rows.uptoBulkAll]
    cases List.mem_cons.1 h with
    | inl e => subst e; omega
    | inr e => have := ih e; omega

section
variable {H : Type} {enc : TypeId × Value → H} {W : World}

theorem open_key {fuel : Nat} {cs : List Value} {d : DataW H} {p : List MemPlace} (hl : cs.length = 32) (h : Rd enc Try.prog W fuel 26 cs d p) : ∃ k : List Int, RepL (memOf W) (key k) cs ∧ True := by
  obtain ⟨bs, rfl, hbl, _⟩ := open_arr Try.underlying26 Try.underlying5 (by kernel_rfl) hl h
  exact ⟨bs, ⟨hl, fun u hu => by simp only [u8s, List.mem_map] at hu; obtain ⟨n, _, rfl⟩ := hu; rfl, [], by simp [u8s], rfl⟩, trivial⟩

theorem open_ent {fuel : Nat} {cs : List Value} {d : DataW H} {p : List MemPlace} (hl : cs.length = 21) (h : Rd enc Try.prog W fuel 74 cs d p) : ∃ e : Ent, RepL (memOf W) e.row cs ∧ e.ks.length ≤ Rows.uptoBulk d := by
  obtain ⟨y0, y1, n, hx, _, h0, h1⟩ := trod_struct2 Try.underlying74 h
  simp only [Prod.mk.injEq] at hx
  obtain ⟨rfl, _⟩ := hx
  have c24 : Try.prog.cellsOf 24 = 20 := by kernel_rfl
  have c72 : Try.prog.cellsOf 72 = 1 := by kernel_rfl
  simp only [c24, c72, List.drop_zero] at h0 h1
  obtain ⟨bs, hbs, hbl, _⟩ := open_arr (d := y0.1) (p := y0.2) Try.underlying24 Try.underlying5 (by kernel_rfl) (by simp [hl]) h0
  obtain ⟨v, hv⟩ : ∃ v, cs.drop 20 = [v] := by
    have : (cs.drop 20).length = 1 := by simp [hl]
    match hc : cs.drop 20, this with
    | [v], _ => exact ⟨v, rfl⟩
  rw [hv, List.take_of_length_le (by simp)] at h1
  obtain ⟨ls, ss, hr, hd⟩ := open_sl (sz := 32) (row := key) (R := fun _ _ => True) (d := y1.1) (p := y1.2) Try.underlying72 (by kernel_rfl) (by omega) (fun _ => rfl) (fun fuel cs d p hl h => open_key hl h) h1
  refine ⟨⟨bs, ls, ss.map key⟩, ⟨by simp [u8s, hbl], fun u hu => by simp only [u8s, List.mem_map] at hu; obtain ⟨n, _, rfl⟩ := hu; rfl, [v], ?_, v, [], rfl, hr, rfl⟩, ?_⟩
  · rw [← hv, u8s, ← hbs, List.take_append_drop]
  · simp only [Rows.uptoBulk, Rows.uptoBulkAll]
    rcases hd with ⟨hd, rfl, _⟩ | ⟨els, rest, hd, hel, _, _⟩
    · simp
    · rw [hd]
      have := bulk_len els
      simp only [Rows.uptoBulk]
      omega

theorem open_list {fuel : Nat} {v : Value} {d : DataW H} {p : List MemPlace} (h : Rd enc Try.prog W fuel 22 [v] d p) (hk : Rows.uptoBulk d ≤ 1048576) :
    ∃ (es : List Ent) (s : List (List PS)), RepV (memOf W) (.sl (es.map Ent.row) s) v ∧ es.length ≤ 2 ^ 40 ∧ ∀ e ∈ es, e.ks.length ≤ 2 ^ 40 := by
  obtain ⟨ls, ss, hr, hd⟩ := open_sl (sz := 21) (row := Ent.row) (R := fun e d => e.ks.length ≤ Rows.uptoBulk d) Try.underlying22 (by kernel_rfl) (by omega) (fun _ => rfl) (fun fuel cs d p hl h => open_ent hl h) h
  refine ⟨ls, ss.map Ent.row, hr, ?_⟩
  rcases hd with ⟨_, rfl, _⟩ | ⟨els, rest, rfl, hel, _, hR⟩
  · exact ⟨by simp, by simp⟩
  · simp only [Rows.uptoBulk] at hk
    have := bulk_len els
    refine ⟨by omega, fun e he => ?_⟩
    obtain ⟨i, hi, rfl⟩ := List.getElem_of_mem he
    obtain ⟨x, hx, hle⟩ := hR i _ (List.getElem?_eq_getElem hi)
    have := bulk_part (List.mem_of_getElem? hx)
    omega
end

theorem okWide_array {P : Program} {W : World} {r : Reach} {b0 : Nat} {t e : TypeId} {n : Nat} {v : Value} (ht : P.underlying t = some (.array n e)) (h : Value.okWide P W r b0 t v) : ∃ xs : Array Value, v = .agg xs ∧ xs.size = P.cellsOf t := by
  simp only [Value.okWide, ht] at h
  obtain ⟨cs, h1, h2, _⟩ := h
  exact ⟨cs, h1, h2⟩

set_option maxRecDepth 100000 in
theorem contract (H : Type) (enc : TypeId × Value → H) (W : World) (base : Nat) (args : Array Value) (ds gs : List (DataW H)) (before : List MemPlace)
    (hval : ∀ (j : Nat) t v, Try.f3.params[j]? = some t → args[j]? = some v → Value.okWide Try.prog W .any base t v)
    (hW : DataW.Whole enc Try.prog Try.f3.params.toList Rows.accessCountsSpec.vars false W args.toList ds gs before) (hk : Rows.uptoSmall H (ds ++ gs) = true) :
    Calls Try.prog 3 args W fun e W' => ∃ v, e = .returned v ∧ Rows.accessCountsSpec.post enc Try.prog Try.f3 false true false false W args v W' := by
  have hW' := hW
  obtain ⟨p, q, hA0, hV, rfl, hfz, hnd⟩ := hW
  have hA : DataW.TrodAll enc Try.prog W 0 (fun _ => true) true Try.f3.params.toList args.toList ds p := hA0
  rw [Try.params3] at hA hval
  obtain ⟨v0, vs0, d0, ds0, p0, q0, hargs, rfl, rfl, h0, r0⟩ := trodAll_cons hA
  obtain ⟨v1, vs1, d1, ds1, p1, q1, rfl, rfl, rfl, h1, r1⟩ := trodAll_cons r0
  obtain ⟨v2, vs2, d2, ds2, p2, q2, rfl, rfl, rfl, h2, r2⟩ := trodAll_cons r1
  obtain ⟨rfl, rfl, rfl⟩ := trodAll_nil r2
  obtain rfl : args = #[v0, v1, v2] := by cases args; simp_all
  obtain ⟨rfl, rfl⟩ := trodVars_none hV
  obtain ⟨a0, len0, cap0, rfl⟩ := okWide_slice Try.underlying22 (hval 0 22 v0 rfl rfl)
  obtain ⟨x1, rfl, hx1⟩ := okWide_array Try.underlying24 (hval 1 24 v1 rfl rfl)
  obtain ⟨x2, rfl, hx2⟩ := okWide_array Try.underlying26 (hval 2 26 v2 rfl rfl)
  have c24 : Try.prog.cellsOf 24 = 20 := by kernel_rfl
  have c26 : Try.prog.cellsOf 26 = 32 := by kernel_rfl
  have hb : Rows.uptoBulkAll ([d0, d1, d2] ++ []) ≤ 1048576 := of_decide_eq_true hk
  simp only [List.append_nil, Rows.uptoBulkAll] at hb
  have k0 := h0
  have k1 := h1
  have k2 := h2
  have lt0 : ∀ x ∈ p0, x.block < W.heap.size := by obtain ⟨m, hm⟩ := k0; exact DataW.trod_lt m _ _ _ hm
  have lt1 : ∀ x ∈ p1, x.block < W.heap.size := by obtain ⟨m, hm⟩ := k1; exact DataW.trod_lt m _ _ _ hm
  have lt2 : ∀ x ∈ p2, x.block < W.heap.size := by obtain ⟨m, hm⟩ := k2; exact DataW.trod_lt m _ _ _ hm
  obtain ⟨fuel0, f0⟩ := h0
  obtain ⟨fuel1, f1⟩ := h1
  obtain ⟨fuel2, f2⟩ := h2
  obtain ⟨es, s, hr, hlen, hks⟩ := open_list (v := .slice a0 len0 cap0) f0 (by omega)
  obtain ⟨ad, had, hal, _⟩ := open_arr Try.underlying24 Try.underlying5 (by kernel_rfl) (n := 20) (by simp [Value.cells, hx1, c24]) f1
  obtain ⟨sl, hsl, hsll, _⟩ := open_arr Try.underlying26 Try.underlying5 (by kernel_rfl) (n := 32) (by simp [Value.cells, hx2, c26]) f2
  have one : ∀ l : List Int, ∀ u ∈ l.map (Value.int .u8), u.oneCell' = true := fun l u hu => by rw [List.mem_map] at hu; obtain ⟨n, _, rfl⟩ := hu; rfl
  have hrep : RepRs (memOf W) [.s (.sl (es.map Ent.row) s), .a [.r 20 (u8s ad)], .a [.r 32 (u8s sl)]] [.slice a0 len0 cap0, .agg x1, .agg x2] := by
    refine ⟨_, _, rfl, hr, _, _, rfl, ⟨u8s ad, ?_, by simp [u8s, hal], one ad, [], by simp, rfl⟩, _, _, rfl, ⟨u8s sl, ?_, by simp [u8s, hsll], one sl, [], by simp, rfl⟩, rfl⟩
    · rw [u8s, ← had]; simp [Value.cells]
    · rw [u8s, ← hsl]; simp [Value.cells]
  have hc := accessCounts_sound [.s (.sl (es.map Ent.row) s), .a [.r 20 (u8s ad)], .a [.r 32 (u8s sl)]] (fun rs => rs = [.s (.v (.bool true))]) (memOf W) W [.slice a0 len0 cap0, .agg x1, .agg x2] (fun _ _ _ h => h) hrep
    ⟨es, s, ad, sl, rfl, hlen, hks, rfl⟩
  clear hA0
  simp only [List.append_nil] at hW'
  refine hc.mono fun e W' ⟨v, rs, m', he, hrs, hres, _, _, _, bel⟩ => ?_
  subst hrs
  have hv : v = .bool true := hres.1
  subst hv
  subst he
  exact ⟨_, rfl, _, _, _, [], _, [], hW', trodAll_mk1 (shut_bool Try.underlying4 _),
    (trodAll_cons_mk (Below.trod laidOut (by kernel_rfl) (of_decide_eq_true (by kernel_rfl)) k0 bel lt0) (trodAll_cons_mk (Below.trod laidOut (by kernel_rfl) (of_decide_eq_true (by kernel_rfl)) k1 bel lt1) (trodAll_cons_mk (Below.trod laidOut (by kernel_rfl) (of_decide_eq_true (by kernel_rfl)) k2 bel lt2) trodAll_mk0))), rfl, bel.frame _, fun h => by cases h⟩

set_option maxRecDepth 100000 in
theorem lifted (os : Os) (started : os.Started) (H : Type) (enc : TypeId × Value → H) (F : Stop.Interp) :
    ReturnsInHanded {} Try.checked os 3 .any ((Rows.OpenSpec.upto Rows.accessCountsSpec).pre6 enc Try.prog Try.f3 Rows.accessCountsUptoRow.domain false) (((Rows.OpenSpec.upto Rows.accessCountsSpec).at F).post enc Try.prog Try.f3 false true false false) := by
  refine returnsInHanded_of_cond (C := Try.checked) (s := Rows.OpenSpec.upto Rows.accessCountsSpec) (k := Rows.uptoSmall) rfl own started (by kernel_rfl) Try.func3
    (OpenSpec.witness (enc := enc) (C := Try.checked) (s := Rows.OpenSpec.upto Rows.accessCountsSpec) (k := Rows.uptoSmall) rfl false ⟨#[], #[.slice none 0 0, .agg (Array.replicate 20 (.int .u8 0)), .agg (Array.replicate 32 (.int .u8 0))], []⟩ 8 (by kernel_rfl) (by kernel_rfl) (by kernel_rfl)
      (x := ([.nil, .agg (List.replicate 20 (.lit (.int .u8 0))), .agg (List.replicate 32 (.lit (.int .u8 0)))], [], [])) (by kernel_rfl) rfl (by kernel_rfl)) ?_
  intro W base args ds gs before hval hW _ hk _
  exact contract H enc W base args ds gs before hval hW hk

theorem over : Rows.accessCountsUptoRow.holds Try.pinned (Rows.OpenSpec.upto Rows.accessCountsSpec) :=
  OpenClaim.holds_of_cond 3 Try.f3 rfl rfl rfl rfl rfl rfl rfl ⟨rfl, rfl, rfl, rfl, rfl⟩ rfl rfl rfl rfl rfl (by kernel_rfl) Try.func3 (by kernel_rfl)
    (of_decide_eq_true (by kernel_rfl)) (by unfold Func.isWrapper; first | (rw [if_pos (by decide +kernel)]; kernel_rfl) | (rw [if_neg (by decide +kernel)]; exact ⟨rfl, rfl⟩))
    (fun os started H enc _ F => lifted os started H enc F)

theorem proved : Rows.AccessCountsUptoSaid := over

#print axioms proved
end Go.Proofs.Ytpcgpmgjbgenkaa.accessCounts
