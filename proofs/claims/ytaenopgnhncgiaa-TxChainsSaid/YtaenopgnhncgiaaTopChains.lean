/-
  TxChains returns true at every number, and the argument reads afterwards as it read before. No condition.
-/
import Derived.Test.YtaenopgnhncgiaaU12
import Derived.Test.YtaenopgnhncgiaaEngR
import Derived.Test.YtaenopgnhncgiaaRows
import Derived.WalkKit
import Derived.ProofKit
import Derived.OpenShut
import Derived.JoinedCond
import Derived.Below
import Derived.Carry
namespace Go.Proofs.Ytaenopgnhncgiaa.txChains
open Go.ChangeShapes Go.WideShapes Go.ChangeAt Go.RowKit Go.Eng

theorem own : ownKnob Try.prog.godebug = none := by kernel_rfl
theorem laidOut : laidOutB Try.prog = true := by kernel_rfl

theorem okWide_array {P : Program} {W : World} {r : Reach} {b0 : Nat} {t e : TypeId} {n : Nat} {v : Value} (ht : P.underlying t = some (.array n e)) (h : Value.okWide P W r b0 t v) : ∃ xs : Array Value, v = .agg xs ∧ xs.size = P.cellsOf t := by
  simp only [Value.okWide, ht] at h
  obtain ⟨cs, h1, h2, _⟩ := h
  exact ⟨cs, h1, h2⟩

theorem four (bs : List Int) (hl : bs.length = 4) (hw : ∀ b ∈ bs, (Lit.int .u64 b).wf = true) : ∃ n : Nat, n < M256 ∧ bs.map (Value.int .u64) = w4 n := by
  match bs, hl with
  | [a, b, c, d], _ =>
    have key : ∀ x ∈ [a, b, c, d], ∃ m : Nat, x = (m : Int) ∧ m < 18446744073709551616 := fun x hx => by
      have := hw x hx
      have h2 : 0 ≤ x ∧ x ≤ 18446744073709551615 := by simpa [Lit.wf, IntKind.min, IntKind.max, IntKind.signed, IntKind.bits] using this
      exact ⟨x.toNat, by omega, by omega⟩
    obtain ⟨a', ha, la⟩ := key a (by simp)
    obtain ⟨b', hb, lb⟩ := key b (by simp)
    obtain ⟨c', hc, lc⟩ := key c (by simp)
    obtain ⟨d', hd, ld⟩ := key d (by simp)
    subst ha hb hc hd
    exact ⟨v4 a' b' c' d', by unfold v4 M256; omega, (w4_v4 la lb lc ld).symm⟩

set_option maxRecDepth 100000 in
theorem contract (H : Type) (enc : TypeId × Value → H) (W : World) (base : Nat) (args : Array Value) (ds gs : List (DataW H)) (before : List MemPlace)
    (hval : ∀ (j : Nat) t v, Try.f3.params[j]? = some t → args[j]? = some v → Value.okWide Try.prog W .any base t v)
    (hW : DataW.Whole enc Try.prog Try.f3.params.toList Rows.txChainsSpec.vars false W args.toList ds gs before) :
    Calls Try.prog 3 args W fun e W' => ∃ v, e = .returned v ∧ Rows.txChainsSpec.post enc Try.prog Try.f3 false true false false W args v W' := by
  have hW' := hW
  obtain ⟨p, q, hA0, hV, rfl, hfz, hnd⟩ := hW
  have hA : DataW.TrodAll enc Try.prog W 0 (fun _ => true) true Try.f3.params.toList args.toList ds p := hA0
  rw [Try.params3] at hA hval
  obtain ⟨v0, vs0, d0, ds0, p0, q0, hargs, rfl, rfl, h0, r0⟩ := trodAll_cons hA
  obtain ⟨rfl, rfl, rfl⟩ := trodAll_nil r0
  obtain rfl : args = #[v0] := by cases args; simp_all
  obtain ⟨rfl, rfl⟩ := trodVars_none hV
  obtain ⟨x0, rfl, hx0⟩ := okWide_array Try.underlying24 (hval 0 24 v0 rfl rfl)
  have c0 : Try.prog.cellsOf 24 = 4 := by kernel_rfl
  have k0 := h0
  have lt0 : ∀ x ∈ p0, x.block < W.heap.size := by obtain ⟨m, hm⟩ := k0; exact DataW.trod_lt m _ _ _ hm
  obtain ⟨fuel0, f0⟩ := h0
  obtain ⟨bs, hbs, hbl, hbw⟩ := open_arr Try.underlying24 Try.underlying22 (by kernel_rfl) (n := 4) (by simp [Value.cells, hx0, c0]) f0
  obtain ⟨n, hn, hbn⟩ := four bs hbl hbw
  have hrep : RepRs (memOf W) [pw n] [.agg x0] := by
    refine ⟨_, _, rfl, ⟨w4 n, ?_, rfl, fun u hu => ?_, [], by simp, rfl⟩, rfl⟩
    · rw [← hbn, ← hbs]; simp [Value.cells]
    · rw [← hbn, List.mem_map] at hu; obtain ⟨m, _, rfl⟩ := hu; rfl
  have hc := txChains_sound [pw n] (fun rs => rs = [.s (.v (.bool true))]) (memOf W) W [.agg x0] (fun _ _ _ h => h) hrep ⟨n, rfl, hn, rfl⟩
  clear hA0
  simp only [List.append_nil] at hW'
  refine hc.mono fun e W' ⟨v, rs, m', he, hrs, hres, _, _, _, bel⟩ => ?_
  subst hrs
  have hv : v = .bool true := hres.1
  subst hv
  subst he
  exact ⟨_, rfl, _, _, _, [], _, [], hW', trodAll_mk1 (shut_bool Try.underlying4 _),
    (trodAll_cons_mk (Below.trod laidOut (by kernel_rfl) (of_decide_eq_true (by kernel_rfl)) k0 bel lt0) trodAll_mk0), rfl, bel.frame _, fun h => by cases h⟩

set_option maxRecDepth 100000 in
theorem lifted (os : Os) (started : os.Started) (H : Type) (enc : TypeId × Value → H) :
    ReturnsInHanded {} Try.checked os 3 .any (Rows.txChainsSpec.pre6 enc Try.prog Try.f3 Rows.txChainsRow.domain false) (Rows.txChainsSpec.post enc Try.prog Try.f3 false true false false) := by
  refine returnsInHanded_of_change (C := Try.checked) own started (by kernel_rfl) Try.func3
    (ChangeSpec.witness6 (enc := enc) (C := Try.checked) false ⟨#[], #[.agg (Array.replicate 4 (.int .u64 0))], []⟩ 8 (by kernel_rfl) (by kernel_rfl) (by kernel_rfl) (by kernel_rfl)) ?_
  intro W base args ds gs before hval hW _ _
  exact contract H enc W base args ds gs before hval hW

theorem proved : Rows.TxChainsSaid :=
  OpenClaim.holds_of_wide 3 Try.f3 rfl rfl rfl rfl rfl rfl rfl ⟨rfl, rfl, rfl, rfl, rfl⟩ rfl rfl rfl rfl rfl (by kernel_rfl) Try.func3 (by kernel_rfl)
    (of_decide_eq_true (by kernel_rfl)) (by unfold Func.isWrapper; first | (rw [if_pos (by decide +kernel)]; kernel_rfl) | (rw [if_neg (by decide +kernel)]; exact ⟨rfl, rfl⟩))
    (fun os started H enc _ => lifted os started H enc)

#print axioms proved
end Go.Proofs.Ytaenopgnhncgiaa.txChains
