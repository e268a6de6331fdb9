/-
  TxOneWay returns true at every slice of bytes of bulk at most 1048576, and the argument reads afterwards as it read before.
-/
import Derived.Test.YtejelaaocjfjbaaGD
import Derived.Test.YtejelaaocjfjbaaEngR
import Derived.Test.YtejelaaocjfjbaaRows
import Derived.WalkKit
import Derived.ProofKit
import Derived.OpenShut
import Derived.JoinedCond
import Derived.Below
import Derived.Carry
import Derived.Lib.SmallJoins
namespace Go.Proofs.Ytejelaaocjfjbaa.txOneWay
open Go.ChangeShapes Go.WideShapes Go.ChangeAt Go.RowKit Go.Eng

theorem own : ownKnob Try.prog.godebug = none := by kernel_rfl
theorem laidOut : laidOutB Try.prog = true := by kernel_rfl
theorem bulk_len {H : Type} (l : List (DataW H)) : l.length ≤ Rows.uptoBulkAll l := by
  induction l with
  | nil => simp [Rows.uptoBulkAll]
  | cons x r ih =>
    have h1 : 1 ≤ Rows.uptoBulk x := by
      cases x with
      | lit l => cases l <;> simp [Rows.uptoBulk]
      | _ => simp [Rows.uptoBulk]
    simp only [Rows.uptoBulkAll, List.length_cons]
    omega
theorem wfB {x : Int} (h : (Lit.int .u8 x).wf = true) : 0 ≤ x ∧ x < 256 := by
  have h2 : 0 ≤ x ∧ x ≤ 255 := by simpa [Lit.wf, IntKind.min, IntKind.max, IntKind.signed, IntKind.bits] using h
  omega

section
variable {H : Type} {enc : TypeId × Value → H} {W : World}
theorem open_byte {fuel : Nat} {cs : List Value} {d : DataW H} {p : List MemPlace} (h : Rd enc Try.prog W fuel 5 cs d p) : ∃ b : Int, RepL (memOf W) (b8 b) cs ∧ 0 ≤ b ∧ b < 256 := by
  obtain ⟨b, hb, _, hw⟩ := DataW.trod_int Try.underlying5 h
  subst hb
  exact ⟨b, ⟨.int .u8 b, [], rfl, ⟨rfl, rfl⟩, rfl⟩, wfB hw⟩

theorem open_bytes {fuel : Nat} {v : Value} {d : DataW H} {p : List MemPlace} (h : Rd enc Try.prog W fuel 22 [v] d p) (hk : Rows.uptoBulk d ≤ 1048576) :
    ∃ (b : List Int) (s : List (List PS)), RepV (memOf W) (.sl (b.map b8) s) v ∧ bytesOk b ∧ b.length ≤ 2 ^ 20 ∧ ∀ z ∈ s, rlen z = 1 := by
  obtain ⟨ls, ss, hr, hd⟩ := open_sl (sz := 1) (row := b8) (R := fun b _ => 0 ≤ b ∧ b < 256) Try.underlying22 (by kernel_rfl) (by omega) (fun _ => rfl) (fun fuel cs d p hl h => open_byte h) h
  refine ⟨ls, ss.map b8, hr, ?_⟩
  have hs : ∀ z ∈ ss.map b8, rlen z = 1 := fun z hz => by
    obtain ⟨x, _, rfl⟩ := List.mem_map.1 hz; rfl
  rcases hd with ⟨_, rfl, _⟩ | ⟨els, rest, rfl, hel, _, hR⟩
  · exact ⟨(by intro x hx; cases hx), Nat.zero_le _, hs⟩
  · simp only [Rows.uptoBulk] at hk
    have := bulk_len els
    refine ⟨fun e he => ?_, by omega, hs⟩
    obtain ⟨i, hi, rfl⟩ := List.getElem_of_mem he
    obtain ⟨x, hx, hle⟩ := hR i _ (List.getElem?_eq_getElem hi)
    exact hle
end

set_option maxRecDepth 100000 in
theorem contract (H : Type) (enc : TypeId × Value → H) (W : World) (base : Nat) (args : Array Value) (ds gs : List (DataW H)) (before : List MemPlace)
    (hval : ∀ (j : Nat) t v, Try.f3.params[j]? = some t → args[j]? = some v → Value.okWide Try.prog W .any base t v)
    (hW : DataW.Whole enc Try.prog Try.f3.params.toList Rows.txOneWaySpec.vars false W args.toList ds gs before) (hk : Rows.uptoSmall H (ds ++ gs) = true) :
    Calls Try.prog 3 args W fun e W' => ∃ v, e = .returned v ∧ Rows.txOneWaySpec.post enc Try.prog Try.f3 false true false false W args v W' := by
  have hW' := hW
  obtain ⟨p, q, hA0, hV, rfl, hfz, hnd⟩ := hW
  have hA : DataW.TrodAll enc Try.prog W 0 (fun _ => true) true Try.f3.params.toList args.toList ds p := hA0
  rw [Try.params3] at hA hval
  obtain ⟨v0, vs0, d0, ds0, p0, q0, hargs, rfl, rfl, h0, r0⟩ := trodAll_cons hA
  obtain ⟨rfl, rfl, rfl⟩ := trodAll_nil r0
  obtain rfl : args = #[v0] := by cases args; simp_all
  obtain ⟨rfl, rfl⟩ := trodVars_none hV
  obtain ⟨a0, len0, cap0, rfl⟩ := okWide_slice Try.underlying22 (hval 0 22 v0 rfl rfl)
  have hb : Rows.uptoBulkAll ([d0] ++ []) ≤ 1048576 := of_decide_eq_true hk
  simp only [List.append_nil, Rows.uptoBulkAll] at hb
  have k0 := h0
  have lt0 : ∀ x ∈ p0, x.block < W.heap.size := by obtain ⟨m, hm⟩ := k0; exact DataW.trod_lt m _ _ _ hm
  obtain ⟨fuel0, f0⟩ := h0
  obtain ⟨b, s, hr, hby, hbl, hsp⟩ := open_bytes f0 (by omega)
  have hrep : RepRs (memOf W) [.s (.sl (b.map b8) s)] [.slice a0 len0 cap0] := ⟨_, _, rfl, hr, rfl⟩
  have hc := txOneWay_sound [.s (.sl (b.map b8) s)] (fun rs => rs = [.s (.v (.bool true))]) (memOf W) W [.slice a0 len0 cap0] (fun g row e => by cases e) (fun _ _ _ h => h) hrep ⟨b, s, rfl, hby, hbl, hsp, rfl⟩
  clear hA0
  simp only [List.append_nil] at hW'
  refine hc.mono fun e W' ⟨v, rs, m', F, he, hrs, hres, _, _, _, _, bel⟩ => ?_
  subst hrs
  have hv : v = .bool true := hres.2.1
  subst hv
  subst he
  exact ⟨_, rfl, _, _, _, [], _, [], hW', trodAll_mk1 (shut_bool Try.underlying4 _), (trodAll_cons_mk (Below.trod laidOut (by kernel_rfl) (of_decide_eq_true (by kernel_rfl)) k0 bel lt0) trodAll_mk0), rfl, bel.frame _, fun h => by cases h⟩

set_option maxRecDepth 100000 in
theorem lifted (os : Os) (started : os.Started) (H : Type) (enc : TypeId × Value → H) (F : Stop.Interp) :
    ReturnsInHanded {} Try.checked os 3 .any ((Rows.OpenSpec.upto Rows.txOneWaySpec).pre6 enc Try.prog Try.f3 Rows.txOneWayUptoRow.domain false) (((Rows.OpenSpec.upto Rows.txOneWaySpec).at F).post enc Try.prog Try.f3 false true false false) := by
  refine returnsInHanded_of_cond (C := Try.checked) (s := Rows.OpenSpec.upto Rows.txOneWaySpec) (k := Rows.uptoSmall) rfl own started (by kernel_rfl) Try.func3
    (OpenSpec.witness (enc := enc) (C := Try.checked) (s := Rows.OpenSpec.upto Rows.txOneWaySpec) (k := Rows.uptoSmall) rfl false ⟨#[], #[.slice none 0 0], []⟩ 8 (by kernel_rfl) (by kernel_rfl) (by kernel_rfl)
      (x := ([.nil], [], [])) (by kernel_rfl) rfl (by kernel_rfl)) ?_
  intro W base args ds gs before hval hW _ hk _
  exact contract H enc W base args ds gs before hval hW hk

theorem over : Rows.txOneWayUptoRow.holds Try.pinned (Rows.OpenSpec.upto Rows.txOneWaySpec) :=
  OpenClaim.holds_of_cond 3 Try.f3 rfl rfl rfl rfl rfl rfl rfl ⟨rfl, rfl, rfl, rfl, rfl⟩ rfl rfl rfl rfl rfl (by kernel_rfl) Try.func3 (by kernel_rfl)
    (of_decide_eq_true (by kernel_rfl)) (by unfold Func.isWrapper; first | (rw [if_pos (by decide +kernel)]; kernel_rfl) | (rw [if_neg (by decide +kernel)]; exact ⟨rfl, rfl⟩))
    (fun os started H enc _ F => lifted os started H enc F)

theorem proved : Rows.TxOneWayUptoSaid := over

#print axioms proved
end Go.Proofs.Ytejelaaocjfjbaa.txOneWay
