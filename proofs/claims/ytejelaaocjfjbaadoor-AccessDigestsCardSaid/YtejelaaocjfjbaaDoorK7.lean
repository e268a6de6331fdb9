/-
  keccak.Sum. Condition: at most 2^30 bytes.
-/
import Derived.Test.YtejelaaocjfjbaaDoorK6
namespace Go.Eng
open Go Go.Proofs
set_option maxRecDepth 100000
set_option linter.unusedVariables false

theorem sum_sound : Sound Tryd.prog 37 fun args k => ∃ (ps : List Tex) (s : List (List PS)), args = [.s (.sl (ps.map Tex.row) s)] ∧ ps.length ≤ 2 ^ 30 ∧ (join ps).length ≤ 2 ^ 30 ∧ (∀ b ∈ join ps, 0 ≤ b ∧ b < 256) ∧ (∀ t ∈ ps, ∀ z ∈ t.s, rlen z = 1) ∧ k [.a [.r 32 (u8s (kec (join ps)))]] := by
  refine Sound.of_body tt_ok ent_ok Tryd.func37 rfl ?_
  rintro ar har Γ hΓ args k ⟨ps, s, hargs, hl, hj, hb, hsp, hk⟩
  obtain ⟨X, hX⟩ : ∃ X, X = ps.map Tex.row := ⟨_, rfl⟩
  obtain ⟨H, hH⟩ : ∃ X, X = u8s (kec (join ps)) := ⟨_, rfl⟩
  rw [← hH] at hk
  have c1 : ∀ (Γ : Ctx) (d' : Nat) (k : List PR → Prop) (Q : Prop), Γ = ctx Tryd.prog d' → k [.a [.r 32 H]] → Γ.g 60 [.s (.v (.int .i64 0)), .s (.sl X s)] k ∨ Q := fun Γ d' k Q hΓ hk => call_by hΓ digest_sound ⟨ps, s, by rw [hX], hl, hj, hb, hsp, by rw [← hH]; exact hk⟩
  rw [← hX] at hargs
  subst hargs
  conv => cbv
  refine c1 _ _ _ _ hΓ ?_
  conv => cbv
  exact hk
end Go.Eng
