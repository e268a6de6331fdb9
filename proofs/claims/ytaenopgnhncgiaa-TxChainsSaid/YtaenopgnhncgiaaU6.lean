/-
  The reference subtracts as u256.Sub does: the difference and the borrow. No condition.
-/
import Derived.Test.YtaenopgnhncgiaaU5
namespace Go.Eng
open Go Go.Proofs
set_option maxRecDepth 100000

/-- Where the reference's subtraction stands after p rounds. -/
def SubI (xs ys : List Nat) (q : Nat × Int × List Value × Int) : Prop :=
  q.1 ≤ 8 ∧ q.2.1 = q.1 ∧ ∃ (rs : List Nat) (b : Nat), q.2.2.2 = b ∧ b ≤ 1 ∧ rs.length = q.1 ∧ (∀ r ∈ rs, r < 4294967296) ∧ q.2.2.1 = n64s (rs ++ xs.drop q.1) ∧
    val32 rs + val32 (ys.take q.1) = val32 (xs.take q.1) + 4294967296 ^ q.1 * b

theorem SubI.next {xs ys : List Nat} {p : Nat} {pi' b'' : Int} {Z' : List Value} {rs : List Nat} {u w b r b' : Nat} (hp : p < 8) (hrl : rs.length = p) (hrb : ∀ r ∈ rs, r < 4294967296) (hu : xs[p]? = some u) (hw : ys[p]? = some w) (ly : ys.length = 8) (lx : xs.length = 8)
    (hval : val32 rs + val32 (ys.take p) = val32 (xs.take p) + 4294967296 ^ p * b) (hr : r + w + b = u + 4294967296 * b') (hr32 : r < 4294967296) (hb : b' ≤ 1) (hpi : pi' = ((p + 1 : Nat) : Int)) (hbb : b'' = b') (hZ : Z' = n64s (rs ++ r :: xs.drop (p + 1))) :
    SubI xs ys (p + 1, pi', Z', b'') := by
  refine ⟨hp, hpi, rs ++ [r], b', hbb, hb, by simp [hrl], fun q hq => ?_, by simp [hZ], ?_⟩
  · rcases List.mem_append.1 hq with hq | hq
    · exact hrb q hq
    · rw [List.mem_singleton.1 hq]; exact hr32
  · have tx : xs.take (p + 1) = xs.take p ++ [u] := by rw [List.take_add_one, hu]; rfl
    have ty : ys.take (p + 1) = ys.take p ++ [w] := by rw [List.take_add_one, hw]; rfl
    have l1 : (xs.take p).length = p := by rw [List.length_take, lx]; omega
    have l2 : (ys.take p).length = p := by rw [List.length_take, ly]; omega
    rw [tx, ty, val_snoc, val_snoc, val_snoc, hrl, l1, l2, Nat.pow_succ]
    exact val_step hval hr

theorem ib_sub {a b : Nat} (h : b ≤ a) (ha : a < 18446744073709551616) : intB .sub .u64 (a : Int) (b : Int) = ((a - b : Nat) : Int) := by
  simp only [intB]
  rw [← Int.ofNat_sub h]
  exact wrap_u64 (by omega)

theorem set_at {rs xs : List Nat} {p u r : Nat} (hrl : rs.length = p) (hu : xs[p]? = some u) : (n64s (rs ++ xs.drop p)).set p (.int .u64 (r : Int)) = n64s (rs ++ r :: xs.drop (p + 1)) := by
  obtain ⟨h, e⟩ := List.getElem?_eq_some_iff.1 hu
  rw [List.drop_eq_getElem_cons h, n64s, n64s, List.map_append, List.map_append, List.map_cons, List.map_cons, List.set_append_right _ _ (by simp [hrl]), List.length_map, hrl, Nat.sub_self]
  rfl

theorem wrapi_small {n : Int} (h : -9223372036854775808 ≤ n ∧ n ≤ 9223372036854775807) : IntKind.i64.wrap n = n := by
  have e : IntKind.i64.wrap n = if n % 18446744073709551616 ≥ 9223372036854775808 then n % 18446744073709551616 - 18446744073709551616 else n % 18446744073709551616 := by
    simp [IntKind.wrap, IntKind.bits, IntKind.signed]
  rw [e]; split <;> omega

theorem refSub_sound : Sound Try.prog 35 fun args k => ∃ n m : Nat, args = [pw n, pw m] ∧ n < M256 ∧ m < M256 ∧ k [pw ((n + M256 - m) % M256), .s (.v (.int .u64 ((if n < m then 1 else 0 : Nat) : Int)))] := by
  refine Sound.of_body tt_ok ent_ok Try.func35 rfl ?_
  rintro ar har Γ hΓ args k ⟨n, m, rfl, hn, hm, hk⟩
  obtain ⟨x, hx⟩ : ∃ x, x = w4 n := ⟨_, rfl⟩
  obtain ⟨y, hy⟩ : ∃ y, y = w4 m := ⟨_, rfl⟩
  obtain ⟨xs, hxs⟩ : ∃ xs, xs = digs n := ⟨_, rfl⟩
  obtain ⟨ys, hys⟩ : ∃ ys, ys = digs m := ⟨_, rfl⟩
  obtain ⟨X, hX⟩ : ∃ X, X = n64s xs := ⟨_, rfl⟩
  obtain ⟨Y, hY⟩ : ∃ Y, Y = n64s ys := ⟨_, rfl⟩
  have lx : xs.length = 8 := by rw [hxs]; rfl
  have ly : ys.length = 8 := by rw [hys]; rfl
  have bx : ∀ a ∈ xs, a < 4294967296 := by rw [hxs]; exact digs_lt n
  have by' : ∀ a ∈ ys, a < 4294967296 := by rw [hys]; exact digs_lt m
  have vx : val32 xs = n := by rw [hxs]; exact val_digs hn
  have vy : val32 ys = m := by rw [hys]; exact val_digs hm
  unfold pw
  rw [← hx, ← hy]
  cbv
  refine call_by hΓ digits_sound ⟨n, by rw [hx], hn, ?_⟩
  unfold pd
  rw [d8_digs, ← hxs, ← hX]
  cbv
  refine call_by hΓ digits_sound ⟨m, by rw [hy], hm, ?_⟩
  unfold pd
  rw [d8_digs, ← hys, ← hY]
  cbv
  refine .inr ⟨{ q : Nat × Int × List Value × Int // SubI xs ys q },
    fun q => ⟨mk 45 [(4, .s (.ptr 2 0)), (6, .s (.ptr 3 0)), (7, .s (.ptr 4 0)), (8, .s (.p (.v (.int .u64 q.1.2.2.2)))), (9, pint q.1.2.1)], [.gone, .gone, .box [.r 4 [.int .u64 0, .int .u64 0, .int .u64 0, .int .u64 0]], .box [.r 8 q.1.2.2.1], .box [.r 8 Y]]⟩,
    fun q => 8 - q.1.1, [], _, ⟨(0, 0, X, 0), Nat.zero_le _, rfl, [], 0, rfl, by omega, rfl, by simp, by rw [hX]; rfl, by simp [val32]⟩, rfl, ?_, ?_⟩
  · cbv
  · rintro ⟨⟨p, pi, Z, β⟩, hq⟩
    obtain ⟨hp, hpi, rs, b, hβ, hb1, hrl, hrb, hZ, hval⟩ := hq
    have hp : p ≤ 8 := hp
    have hpi : pi = (p : Int) := hpi
    have hβ : β = (b : Int) := hβ
    have hrl : rs.length = p := hrl
    have hZ : Z = n64s (rs ++ xs.drop p) := hZ
    have hval : val32 rs + val32 (ys.take p) = val32 (xs.take p) + 4294967296 ^ p * b := hval
    dsimp only
    cbv
    constructor
    · intro hlt
      have hpi : pi = (p : Int) := hpi
      have hlt' : p < 8 := by
        have h2 : ar.cb .lss pi 8 = true := hlt
        rw [har, hpi] at h2
        have h3 : ((p : Int) < 8) := by simpa [arS, intC] using h2
        omega
      obtain ⟨u, hu⟩ : ∃ u, xs[p]? = some u := ⟨_, List.getElem?_eq_getElem (by omega)⟩
      obtain ⟨w, hw⟩ : ∃ w, ys[p]? = some w := ⟨_, List.getElem?_eq_getElem (by omega)⟩
      obtain ⟨ui, hui⟩ : ∃ z : Int, z = u := ⟨_, rfl⟩
      obtain ⟨wi, hwi⟩ : ∃ z : Int, z = w := ⟨_, rfl⟩
      have hnat : ar.nat pi = p := by rw [har, hpi]; exact Int.toNat_natCast p
      have rY : Y[ar.nat pi]? = some (.int .u64 wi) := by rw [hnat, hY, hwi]; simp [n64s, hw]
      have rZ : Z[ar.nat pi]? = some (.int .u64 ui) := by
        rw [hnat, hZ, hui, n64s, List.getElem?_map, List.getElem?_append_right (by omega), hrl, Nat.sub_self, List.getElem?_drop, Nat.add_zero, hu]; rfl
      have rng : 0 ≤ pi ∧ pi < 8 := by rw [hpi]; omega
      have ub : u < 4294967296 := bx u (List.mem_of_getElem? hu)
      have wb : w < 4294967296 := by' w (List.mem_of_getElem? hw)
      have hnl : ar.nat pi < 8 := by rw [hnat]; exact hlt'
      have rset : ∀ (l : List Value) (v : Value), l.length = 8 → (ar.set l (ar.nat pi) v)[ar.nat pi]? = some v := fun l v hl => by
        rw [hnat, har]
        show (l.set p v)[p]? = some v
        rw [List.getElem?_set_self (by rw [hl]; exact hlt')]
      have ht : ar.ib .add .u64 wi β = ((w + b : Nat) : Int) := by rw [har, hwi, hβ]; exact ib_add (by clear hval hZ hn hm; omega)
      have hZl : Z.length = 8 := by rw [hZ, n64s, List.length_map, List.length_append, List.length_drop, hrl, lx]; exact Nat.add_sub_cancel' hp
      cbv
      refine ⟨fun _ => rng, _, rY, ?_⟩
      cbv
      refine ⟨fun _ => rng, _, rZ, ?_⟩
      cbv
      refine ⟨fun hc => ?_, fun hc => ?_⟩
      · have hlt2 : u < w + b := by
          have h2 : ar.cb .lss ui (ar.ib .add .u64 wi β) = true := hc
          rw [ht, har, hui] at h2
          have h3 : intC .lss (u : Int) ((w + b : Nat) : Int) = true := h2
          simp only [intC, decide_eq_true_eq] at h3
          exact Int.ofNat_lt.1 h3
        cbv
        refine ⟨fun _ => rng, _, rZ, ?_⟩
        cbv
        refine ⟨fun _ => rng, fun _ => hnl, fun _ => rng, _, rset Z _ hZl, ?_⟩
        cbv
        have hpi : pi = (p : Int) := hpi
        have hβ : β = (b : Int) := hβ
        have ht : ar.ib .add .u64 wi β = ((w + b : Nat) : Int) := ht
        have hval : val32 rs + val32 (ys.take p) = val32 (xs.take p) + 4294967296 ^ p * b := hval
        have hpi' : ar.ib .add .i64 pi 1 = ((p + 1 : Nat) : Int) := by
          rw [har, hpi]; simp only [arS, intB]; rw [wrapi_small (by clear hval hn hm; omega)]; rfl
        have hbig : ar.ib .add .u64 ui 4294967296 = ((u + 4294967296 : Nat) : Int) := by
          rw [har, hui]; exact ib_add (b := 4294967296) (by clear hval hn hm; omega)
        have hdif : ar.ib .sub .u64 (ar.ib .add .u64 ui 4294967296) (ar.ib .add .u64 wi β) = ((u + 4294967296 - (w + b) : Nat) : Int) := by
          rw [hbig, ht, har]; exact ib_sub (by clear hval hn hm; omega) (by clear hval hn hm; omega)
        have hZ' : ar.set (ar.set Z (ar.nat pi) (.int .u64 (ar.ib .add .u64 ui 4294967296))) (ar.nat pi) (.int .u64 (ar.ib .sub .u64 (ar.ib .add .u64 ui 4294967296) (ar.ib .add .u64 wi β))) = n64s (rs ++ (u + 4294967296 - (w + b)) :: xs.drop (p + 1)) := by
          rw [hdif, hnat, har]
          show (Z.set p _).set p _ = _
          rw [List.set_set, hZ]
          exact set_at hrl hu
        refine ⟨fun _ => rng, fun _ => hnl, ⟨(p + 1, _, _, 1), SubI.next (r := u + 4294967296 - (w + b)) (b' := 1) hlt' hrl hrb hu hw ly lx hval (by clear hval hn hm; omega) (by clear hval hn hm; omega) (by omega) hpi' rfl hZ'⟩, ?_, ?_⟩
        · dsimp only
          cbv
        · show 8 - (p + 1) < 8 - p
          clear hval hn hm
          omega
      · have hge2 : w + b ≤ u := by
          have h2 : ar.cb .lss ui (ar.ib .add .u64 wi β) = false := hc
          rw [ht, har, hui] at h2
          have h3 : intC .lss (u : Int) ((w + b : Nat) : Int) = false := h2
          simp only [intC, decide_eq_false_iff_not] at h3
          exact Nat.le_of_not_lt fun hl => h3 (Int.ofNat_lt.2 hl)
        cbv
        refine ⟨fun _ => rng, _, rZ, ?_⟩
        cbv
        have hpi : pi = (p : Int) := hpi
        have hβ : β = (b : Int) := hβ
        have ht : ar.ib .add .u64 wi β = ((w + b : Nat) : Int) := ht
        have hval : val32 rs + val32 (ys.take p) = val32 (xs.take p) + 4294967296 ^ p * b := hval
        have hpi' : ar.ib .add .i64 pi 1 = ((p + 1 : Nat) : Int) := by
          rw [har, hpi]; simp only [arS, intB]; rw [wrapi_small (by clear hval hn hm; omega)]; rfl
        have hdif : ar.ib .sub .u64 ui (ar.ib .add .u64 wi β) = ((u - (w + b) : Nat) : Int) := by
          rw [ht, har, hui]; exact ib_sub hge2 (by clear hval hn hm; omega)
        have hZ' : ar.set Z (ar.nat pi) (.int .u64 (ar.ib .sub .u64 ui (ar.ib .add .u64 wi β))) = n64s (rs ++ (u - (w + b)) :: xs.drop (p + 1)) := by
          rw [hdif, hnat, har]
          show Z.set p _ = _
          rw [hZ]
          exact set_at hrl hu
        refine ⟨fun _ => rng, fun _ => hnl, ⟨(p + 1, _, _, 0), SubI.next (r := u - (w + b)) (b' := 0) hlt' hrl hrb hu hw ly lx hval (by clear hval hn hm; omega) (by clear hval hn hm; omega) (by omega) hpi' rfl hZ'⟩, ?_, ?_⟩
        · dsimp only
          cbv
        · show 8 - (p + 1) < 8 - p
          clear hval hn hm
          omega
    · intro hge
      have hpi : pi = (p : Int) := hpi
      have hge' : p = 8 := by
        have h2 : ar.cb .lss pi 8 = false := hge
        rw [har, hpi] at h2
        have h3 : intC .lss (p : Int) 8 = false := h2
        simp only [intC, decide_eq_false_iff_not] at h3
        clear hval hn hm
        omega
      subst hge'
      rw [List.drop_of_length_le (by rw [lx]; exact Nat.le_refl _), List.append_nil] at hZ
      rw [List.take_of_length_le (by rw [ly]; exact Nat.le_refl _), List.take_of_length_le (by rw [lx]; exact Nat.le_refl _), vx, vy] at hval
      obtain ⟨e0, e1, e2, e3, e4, e5, e6, e7, rfl⟩ : ∃ e0 e1 e2 e3 e4 e5 e6 e7, rs = [e0, e1, e2, e3, e4, e5, e6, e7] := by
        match rs, hrl with
        | [e0, e1, e2, e3, e4, e5, e6, e7], _ => exact ⟨_, _, _, _, _, _, _, _, rfl⟩
      have hbd : ∀ i (h : i < 8), [e0, e1, e2, e3, e4, e5, e6, e7][i] < 4294967296 := fun i h => hrb _ (List.getElem_mem _)
      have g0 := hbd 0 (by decide)
      have g1 := hbd 1 (by decide)
      have g2 := hbd 2 (by decide)
      have g3 := hbd 3 (by decide)
      have g4 := hbd 4 (by decide)
      have g5 := hbd 5 (by decide)
      have g6 := hbd 6 (by decide)
      have g7 := hbd 7 (by decide)
      simp only [List.getElem_cons_zero, List.getElem_cons_succ] at g0 g1 g2 g3 g4 g5 g6 g7
      have key : v4 (e0 + 4294967296 * e1) (e2 + 4294967296 * e3) (e4 + 4294967296 * e5) (e6 + 4294967296 * e7) + m = n + M256 * b := by
        have e : 4294967296 ^ 8 = M256 := by decide
        rw [e] at hval
        rw [← hval]
        simp only [val32]
        unfold v4
        clear hval hn hm hk vx vy
        omega
      have hlt : v4 (e0 + 4294967296 * e1) (e2 + 4294967296 * e3) (e4 + 4294967296 * e5) (e6 + 4294967296 * e7) < M256 := by
        unfold v4 M256
        clear hval hn hm hk vx vy key
        omega
      have hfin := sub_fin key hlt hn hb1
      rw [hfin.1, hfin.2] at hk
      obtain ⟨D, hD⟩ : ∃ D, D = w4 (v4 (e0 + 4294967296 * e1) (e2 + 4294967296 * e3) (e4 + 4294967296 * e5) (e6 + 4294967296 * e7)) := ⟨_, rfl⟩

      have hβ : β = (b : Int) := hβ
      rw [← hD] at hk
      have hk : k [PR.a [PS.r 4 D], .s (.v (.int .u64 β))] := by rw [hβ]; exact hk
      clear hval hfin key hlt
      cbv
      refine call_by hΓ number_sound ⟨e0, e1, e2, e3, e4, e5, e6, e7, by rw [hZ]; rfl, g0, g1, g2, g3, g4, g5, g6, g7, ?_⟩
      unfold pw
      rw [← hD]
      cbv
      exact hk
end Go.Eng
