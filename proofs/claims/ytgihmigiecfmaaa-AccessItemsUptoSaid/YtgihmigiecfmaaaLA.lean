/-
  rlp.Encode of a list of texts, rlp.lay walked in place. Condition: at most 1000 texts, at most 2^20 bytes.
  rlp.Encode of any tree of at most 4 levels of lists; rlp.lay walked in place, level by level. Condition: bulk at most 2^30.
-/
import Derived.Test.YtgihmigiecfmaaaRC
namespace Go.Eng
open Go Go.Proofs
set_option maxRecDepth 100000
set_option maxHeartbeats 16000000
set_option linter.unusedVariables false

def encT (d : List Int) : List Int := if d.length ≠ 1 ∨ 128 ≤ d.getD 0 0 then hd 128 d.length ++ d else d
def encB : List (List Int) → List Int
  | [] => []
  | d :: l => encT d ++ encB l
def encL (ts : List (List Int)) : List Int := hd 192 (encB ts).length ++ encB ts
theorem encB_append (a b : List (List Int)) : encB (a ++ b) = encB a ++ encB b := by
  induction a with
  | nil => rfl
  | cons x l ih => rw [List.cons_append, encB, encB, ih, List.append_assoc]
theorem encB_take {l : List (List Int)} {p : Nat} {t : List Int} (h : l[p]? = some t) : encB (l.take (p + 1)) = encB (l.take p) ++ encT t := by
  rw [take_succ_get h, encB_append, encB, encB, List.append_nil]
theorem encB_le (l : List (List Int)) (p : Nat) : (encB (l.take p)).length ≤ (encB l).length := by
  conv => rhs; rw [← List.take_append_drop p l, encB_append, List.length_append]
  omega

end Go.Eng
namespace Go.Eng
open Go Go.Proofs
set_option linter.unusedSimpArgs false
set_option linter.unusedVariables false
set_option maxRecDepth 100000
set_option maxHeartbeats 64000000
set_option linter.unusedVariables false

mutual
def enc : It → List Int
  | .mk true _ _ its _ => hd 192 (encs its).length ++ encs its
  | .mk false d _ _ _ => encT d
def encs : List It → List Int
  | [] => []
  | x :: xs => enc x ++ encs xs
end
theorem encs_append (a b : List It) : encs (a ++ b) = encs a ++ encs b := by
  induction a with
  | nil => rfl
  | cons x l ih => rw [List.cons_append, encs, encs, ih, List.append_assoc]
theorem encs_take {l : List It} {p : Nat} {t : It} (h : l[p]? = some t) : encs (l.take (p + 1)) = encs (l.take p) ++ enc t := by
  rw [take_succ_get h, encs_append, encs, encs, List.append_nil]
theorem encs_le (l : List It) (p : Nat) : (encs (l.take p)).length ≤ (encs l).length := by
  conv => rhs; rw [← List.take_append_drop p l, encs_append, List.length_append]
  omega
mutual
theorem enc_len : ∀ x : It, x.bulk ≤ 2 ^ 40 → (enc x).length ≤ 10 * x.bulk
  | .mk true d sd its ss, h => by
    simp only [It.bulk] at h
    have h1 := encs_len' its (by omega)
    have h2 := hd_len (f := 192) (n := (encs its).length) (by omega)
    simp only [enc, It.bulk, List.length_append]; omega
  | .mk false d sd its ss, h => by
    simp only [It.bulk] at h
    have h2 := hd_len (f := 128) (n := d.length) (by omega)
    simp only [enc, It.bulk, encT]
    split
    · rw [List.length_append]; omega
    · omega
theorem encs_len' : ∀ xs : List It, bulks xs ≤ 2 ^ 40 → (encs xs).length ≤ 10 * bulks xs
  | [], _ => by simp [encs]
  | x :: xs, h => by
    simp only [bulks] at h
    have h1 := enc_len x (by omega)
    have h2 := encs_len' xs (by omega)
    simp only [encs, bulks, List.length_append]; omega
end
theorem encs_len (xs : List It) : bulks xs ≤ 2 ^ 40 → (encs xs).length ≤ 10 * bulks xs := encs_len' xs
theorem dep_get {x : It} {p : Nat} {its : List It} (h : its[p]? = some x) : dep x ≤ depths its := by
  have : its = its.take p ++ x :: its.drop (p + 1) := by
    obtain ⟨hlt, e⟩ := List.getElem?_eq_some_iff.1 h
    rw [← e, List.getElem_cons_drop, List.take_append_drop]
  rw [this, deps_append, depths]; omega
theorem depth_pos {d : List Int} {sd : List (List PS)} {its : List It} {ss : List (List PS)} {n : Nat} (h : dep (It.mk true d sd its ss) ≤ n) (h0 : n = 0) : False := by
  simp only [dep] at h; omega

end Go.Eng
