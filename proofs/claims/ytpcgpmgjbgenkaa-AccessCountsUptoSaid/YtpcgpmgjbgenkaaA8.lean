/-
  The law AccessCounts returns true. Condition: at most 2^40 entries, of at most 2^40 keys each.
-/
import Derived.Test.YtpcgpmgjbgenkaaA4
import Derived.Test.YtpcgpmgjbgenkaaA5
import Derived.Test.YtpcgpmgjbgenkaaA7
namespace Go.Eng
open Go Go.Proofs

theorem total_tw (es : List Ent) : total (es.map Ent.tw) = total es := by
  induction es with
  | nil => rfl
  | cons e l ih => simp only [List.map_cons, total, ih]; rfl
theorem warmA_tw (es : List Ent) (a : List Int) : warmA (es.map Ent.tw) a = warmA es a := by
  simp only [warmA, List.any_map]; rfl
theorem warmB_tw (es : List Ent) (a b : List Int) : warmB (es.map Ent.tw) a b = warmB es a b := by
  simp only [warmB, List.any_map]; rfl

set_option maxRecDepth 100000
theorem accessCounts_sound : Sound Try.prog 3 fun args k => ∃ (es : List Ent) (s : List (List PS)) (addr slot : List Int), args = [.s (.sl (es.map Ent.row) s), .a [.r 20 (u8s addr)], .a [.r 32 (u8s slot)]] ∧ es.length ≤ 2 ^ 40 ∧ (∀ e ∈ es, e.ks.length ≤ 2 ^ 40) ∧ k [.s (.v (.bool true))] := by
  refine Sound.of_body tt_ok ent_ok Try.func3 rfl ?_
  rintro ar har Γ hΓ args k ⟨es, s, addr, slot, rfl, hlen, hks, hk⟩
  obtain ⟨X, hX⟩ : ∃ X, X = es.map Ent.row := ⟨_, rfl⟩
  obtain ⟨T, hT⟩ : ∃ T, T = es.map Ent.trow := ⟨_, rfl⟩
  obtain ⟨av, hav⟩ : ∃ av, av = u8s addr := ⟨_, rfl⟩
  obtain ⟨sv, hsv⟩ : ∃ sv, sv = u8s slot := ⟨_, rfl⟩
  obtain ⟨ra, hra⟩ : ∃ ra, ra = warmA es addr := ⟨_, rfl⟩
  obtain ⟨rb, hrb⟩ : ∃ rb, rb = warmB es addr slot := ⟨_, rfl⟩
  obtain ⟨c1, hc1⟩ : ∃ c1 : Int, c1 = es.length := ⟨_, rfl⟩
  obtain ⟨c2, hc2⟩ : ∃ c2, c2 = IntKind.i64.wrap (total es) := ⟨_, rfl⟩
  have hTr : T = (es.map Ent.tw).map Ent.row := by rw [hT, map_tw]
  have htl : (es.map Ent.tw).length ≤ 2 ^ 40 := by rw [List.length_map]; exact hlen
  have htk : ∀ e ∈ es.map Ent.tw, e.ks.length ≤ 2 ^ 40 := by
    intro e he
    rw [List.mem_map] at he
    obtain ⟨e', he', rfl⟩ := he
    exact hks e' he'
  rw [← hX, ← hav, ← hsv]
  cbv
  refine call_by hΓ twin_sound ⟨es, s, by rw [hX], hlen, hks, ?_⟩
  rw [← hT]
  cbv
  refine call_by hΓ count_sound ⟨es.map Ent.tw, [endrow], by rw [hTr]; rfl, htl, ?_⟩
  have hc1 : c1 = (es.length : Int) := hc1
  have hc2 : c2 = IntKind.i64.wrap (total es) := hc2
  rw [List.length_map, total_tw, ← hc1, ← hc2]
  cbv
  refine call_by hΓ warm_sound ⟨es.map Ent.tw, [endrow], addr, slot, by rw [hTr, hav, hsv]; rfl, htl, htk, ?_⟩
  rw [warmA_tw, warmB_tw, ← hra, ← hrb]
  cbv
  refine call_by hΓ refCount_sound ⟨es, s, by rw [hX], hlen, ?_⟩
  have hc1 : c1 = (es.length : Int) := hc1
  have hc2 : c2 = IntKind.i64.wrap (total es) := hc2
  rw [← hc1, ← hc2]
  cbv
  refine call_by hΓ refWarm_sound ⟨es, s, addr, slot, by rw [hX, hav, hsv], hlen, hks, ?_⟩
  rw [← hra, ← hrb]
  cbv
  refine ⟨fun h1 => ?_, fun h1 => ?_⟩
  rotate_left
  · have h2 : ar.cb .eql c1 c1 = false := h1
    rw [har] at h2
    simp [arS, intC] at h2
  cbv
  refine ⟨fun h1 => ?_, fun h1 => ?_⟩
  rotate_left
  · have h2 : ar.cb .eql c2 c2 = false := h1
    rw [har] at h2
    simp [arS, intC] at h2
  cbv
  refine ⟨fun h1 => ?_, fun h1 => ?_⟩
  rotate_left
  · have h2 : ar.bb .eql ra ra = false := h1
    rw [har] at h2
    simp [arS] at h2
  cbv
  refine ⟨fun h1 => ?_, fun h1 => ?_⟩
  rotate_left
  · have h2 : ar.bb .eql rb rb = false := h1
    rw [har] at h2
    simp [arS] at h2
  cbv
  refine call_by hΓ still_sound ⟨es, s, by rw [hX, hT]; rfl, hlen, hks, ?_⟩
  cbv
  exact hk
end Go.Eng
