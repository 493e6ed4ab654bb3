/- The reference's sets of nodes (cohesionref02), first part: membership, order, a number put into a set. -/
import Derived.Test.YtknlmgcbdcepnaaDoorMem
import Derived.Deep.RegionHeld3
set_option linter.unusedVariables false
namespace Go.Proofs.YtknlmgcbdcepnaaDoor
open Go.RowKit

theorem take_at {xs : List Int} {k : Nat} {y : Int} (h : xs[k]? = some y) : xs.take (k + 1) = xs.take k ++ [y] := by
  obtain ⟨hk, rfl⟩ := List.getElem?_eq_some_iff.1 h
  exact List.take_succ_eq_append_getElem hk
theorem drop_at {xs : List Int} {k : Nat} {y : Int} (h : xs[k]? = some y) : xs.drop k = y :: xs.drop (k + 1) := by
  obtain ⟨hk, rfl⟩ := List.getElem?_eq_some_iff.1 h
  exact List.drop_eq_getElem_cons hk
theorem mem_at {xs : List Int} {k : Nat} {y : Int} (h : xs[k]? = some y) : y ∈ xs := List.mem_of_getElem? h

set_option maxHeartbeats 400000 in
theorem has_any (A : Option Addr) (n c : Nat) (xs : List Int) (x : Int) (w : World) (h : RI w A n xs) (hn : n ≤ 4611686018427387904) :
    Calls Tryd.prog 27 #[.slice A n c, .int .i64 x] w fun e w' => e = .returned (.bool (decide (x ∈ xs))) ∧ w = w' := by
  have hl := Lib.hid h.len
  go_enter Tryd.func27, Tryd.ntmps27
  go_wp2
  go_loop [9] (fun i => ∃ k : Nat, k ≤ n ∧ i = .int .i64 k ∧ Hid (x ∉ xs.take k)) (fun i => n - (intOf i).toNat)
  case atStart => exact ⟨0, Nat.zero_le _, rfl, Lib.hid (by simp)⟩
  case round =>
    obtain ⟨k, hk, rfl, hx⟩ := hrel
    by_cases hlt : k < n
    · obtain ⟨ad, y, rfl, hy, hc⟩ := h.get hlt
      by_cases he : y = x
      · subst he
        have hm := Lib.hid (mem_at hy.out)
        go_wp2
        go_ret
        exact ⟨retBool (decide_eq_true hm.out).symm, rfl⟩
      · have he' : (y == x) = false := by simpa using he
        have hm : Hid (x ∉ xs.take (k + 1)) := by
          refine Lib.hid ?_
          rw [take_at hy.out, List.mem_append]
          rintro (h1 | h1)
          · exact hx.out h1
          · exact he (List.mem_singleton.1 h1).symm
        clear he
        go_wp2
        go_round
        case rel => exact ⟨k + 1, by omega, by go_num, hm⟩
        case measure => simp [intOf]; omega
    · have hm : x ∉ xs := by
        have := hx.out
        rwa [List.take_of_length_le (by rw [hl.out]; omega)] at this
      replace hm := Lib.hid hm
      go_wp2
      go_ret
      exact ⟨retBool (decide_eq_false hm.out).symm, rfl⟩

/-- The numbers are ascending nodes below m. -/
def Vld (xs : List Int) (m : Int) : Prop := (∀ x ∈ xs, 0 ≤ x ∧ x < m) ∧ xs.Pairwise (· < ·)
instance (xs : List Int) (m : Int) : Decidable (Vld xs m) := by unfold Vld; infer_instance
theorem vld_nil (m : Int) : Vld [] m := ⟨by simp, List.Pairwise.nil⟩
theorem vld_take {xs : List Int} {m : Int} (h : Vld xs m) (k : Nat) : Vld (xs.take k) m := ⟨fun x hx => h.1 x (List.mem_of_mem_take hx), h.2.take⟩
theorem vld_first {xs : List Int} {m y : Int} {k : Nat} (hy : xs[k]? = some y) (hk : k = 0) (h0 : 0 ≤ y) (h1 : y < m) : Vld (xs.take (k + 1)) m := by
  subst hk; rw [take_at hy]; simp [Vld, h0, h1]
theorem vld_next {xs : List Int} {m y z : Int} {k : Nat} (h : Vld (xs.take k) m) (hz : xs[k - 1]? = some z) (hy : xs[k]? = some y) (hk : 0 < k) (h0 : 0 ≤ y) (h1 : y < m) (hlt : z < y) : Vld (xs.take (k + 1)) m := by
  obtain ⟨j, rfl⟩ : ∃ j, k = j + 1 := ⟨k - 1, by omega⟩
  rw [Nat.add_sub_cancel] at hz
  rw [take_at hy]
  refine ⟨?_, ?_⟩
  · intro x hx
    rcases List.mem_append.1 hx with hx | hx
    · exact h.1 x hx
    · rw [List.mem_singleton.1 hx]; exact ⟨h0, h1⟩
  · rw [List.pairwise_append]
    refine ⟨h.2, List.pairwise_singleton _ _, ?_⟩
    intro a ha b hb
    rw [List.mem_singleton.1 hb]
    have h2 := h.2
    rw [take_at hz] at ha h2
    rw [List.pairwise_append] at h2
    rcases List.mem_append.1 ha with ha | ha
    · exact Int.lt_trans (h2.2.2 a ha z (by simp)) hlt
    · rw [List.mem_singleton.1 ha]; exact hlt
theorem vld_out {xs : List Int} {m y : Int} {k : Nat} (hy : xs[k]? = some y) (h : ¬ (0 ≤ y ∧ y < m)) : ¬ Vld xs m := fun hv => h (hv.1 y (mem_at hy))
theorem vld_down {xs : List Int} {m y z : Int} {k : Nat} (hz : xs[k - 1]? = some z) (hy : xs[k]? = some y) (hk : 0 < k) (h : y ≤ z) : ¬ Vld xs m := fun hv => by
  obtain ⟨j, rfl⟩ : ∃ j, k = j + 1 := ⟨k - 1, by omega⟩
  rw [Nat.add_sub_cancel] at hz
  have := List.pairwise_iff_getElem.1 hv.2
  obtain ⟨h1, rfl⟩ := List.getElem?_eq_some_iff.1 hz
  obtain ⟨h2, rfl⟩ := List.getElem?_eq_some_iff.1 hy
  have := this j (j + 1) h1 h2 (by omega)
  omega

/-- A number put into a set. -/
def putL : List Int → Int → List Int
  | [], x => [x]
  | y :: ys, x => if y < x then y :: putL ys x else if y = x then y :: ys else x :: y :: ys
theorem put_step {xs : List Int} {x y : Int} {k : Nat} (h : putL xs x = xs.take k ++ putL (xs.drop k) x) (hy : xs[k]? = some y) (hlt : y < x) : putL xs x = xs.take (k + 1) ++ putL (xs.drop (k + 1)) x := by
  rw [h, take_at hy, drop_at hy]
  simp [putL, hlt]
theorem put_same {xs : List Int} {x : Int} {k : Nat} (h : putL xs x = xs.take k ++ putL (xs.drop k) x) (hy : xs[k]? = some x) : putL xs x = xs := by
  rw [h, drop_at hy]
  simp only [putL, Int.lt_irrefl, if_false, if_true]
  rw [← drop_at hy, List.take_append_drop]
theorem put_here {xs : List Int} {x y : Int} {k : Nat} (h : putL xs x = xs.take k ++ putL (xs.drop k) x) (hy : xs[k]? = some y) (h1 : ¬ y < x) (h2 : y ≠ x) : putL xs x = xs.take k ++ [x] ++ xs.drop k := by
  rw [h, drop_at hy]
  simp [putL, h1, h2]
theorem put_end {xs : List Int} {x : Int} {k : Nat} (h : putL xs x = xs.take k ++ putL (xs.drop k) x) (hk : xs.length ≤ k) : putL xs x = xs.take k ++ [x] ++ xs.drop k := by
  rw [h, List.drop_of_length_le hk]
  simp [putL]

set_option maxRecDepth 100000 in
set_option maxHeartbeats 1000000 in
theorem put_any (A : Option Addr) (n c : Nat) (xs : List Int) (x : Int) (w : World) (h : RI w A n xs) (hnc : n ≤ c) (hn : n ≤ 1099511627776) :
    Calls Tryd.prog 71 #[.slice A n c, .int .i64 x] w (fun e w' => ∃ A' n' c', e = .returned (.slice A' n' c') ∧ n' ≤ c' ∧ RI w' A' n' (putL xs x) ∧ Below w.heap.size w w' ∧ (A' = A ∨ Fr w.heap.size A')) := by
  have hl := Lib.hid h.len
  obtain ⟨i0, hi0, hz0, hz1, hz2⟩ := info_parts int_info
  go_enter Tryd.func71, Tryd.ntmps71
  go_wp2
  go_loop [5] (fun i => ∃ k : Nat, k ≤ n ∧ i = .int .i64 k ∧ Hid (putL xs x = xs.take k ++ putL (xs.drop k) x)) (fun i => n - (intOf i).toNat)
  case atStart => exact ⟨0, Nat.zero_le _, rfl, Lib.hid (by simp)⟩
  case round =>
    obtain ⟨k, hk, rfl, hx⟩ := hrel
    have hr := h.head hk
    have b0 : (0 : Int) ≤ (k : Int) := Int.natCast_nonneg _
    have b1 : (k : Int) ≤ (n : Int) := by omega
    have b2 : (k : Int) ≤ (c : Int) := by omega
    have b3 : (n : Int) ≤ (c : Int) := by omega
    have hways : (∃ ad, A = some ad ∧ k < n ∧ Hid (xs[k]? = some x) ∧ w.cell? (ad.add k) = some (.int .i64 x)) ∨ (∃ ad y, A = some ad ∧ k < n ∧ y < x ∧ Hid (xs[k]? = some y) ∧ w.cell? (ad.add k) = some (.int .i64 y)) ∨
        (Hid (putL xs x = xs.take k ++ [x] ++ xs.drop k) ∧ (¬ k < n ∨ ∃ ad y, A = some ad ∧ k < n ∧ x < y ∧ (y == x) = false ∧ w.cell? (ad.add k) = some (.int .i64 y))) := by
      by_cases hlt : k < n
      · obtain ⟨ad, y, h1, h2, h3⟩ := h.get hlt
        rcases Int.lt_trichotomy y x with hh | rfl | hh
        · exact .inr (.inl ⟨ad, y, h1, hlt, hh, h2, h3⟩)
        · exact .inl ⟨ad, h1, hlt, h2, h3⟩
        · exact .inr (.inr ⟨Lib.hid (put_here hx.out h2.out (by omega) (by omega)), .inr ⟨ad, y, h1, hlt, hh, by simp; omega, h3⟩⟩)
      · exact .inr (.inr ⟨Lib.hid (put_end hx.out (by rw [hl.out]; omega)), .inl hlt⟩)
    rcases hways with ⟨ad, rfl, hlt, hy, hc⟩ | ⟨ad, y, rfl, hlt, hyx, hy, hc⟩ | ⟨hf, hlt⟩
    · have hs := Lib.hid (put_same hx.out hy.out)
      go_wp2
      go_ret
      exact ⟨_, _, _, rfl, hnc, by rw [hs.out]; exact h, Below.refl _ _, .inl rfl⟩
    · have hs := Lib.hid (put_step hx.out hy.out hyx)
      go_wp2
      go_round
      case rel => exact ⟨k + 1, by omega, by go_num, hs⟩
      case measure => simp [intOf]; omega
    · have hlen : n - k ≤ n := by omega
      rcases hlt with hlt | ⟨ad, y, rfl, hlt, hxy, hne, hc⟩
      all_goals
        go_wp2_with (at_builtin; refine wpList_append_any _ rfl _ _ 26 rfl w.heap.size 3 i0 _ 1 8 Tryd.underlying26 hi0 hz0 hz1 hz2 rfl (by omega) (.slice none 0 0) 0 [] rfl (World.ownsRow_nil _ _ _ _) w.heap.size _ k c (ints (xs.take k)) rfl hr (ints_one _) (by unfold maxLen; omega) (by omega) (Nat.le_refl _) ?_; intro v1 w1 hown1 hg1 hat1)
        have hs1 := hg1.size
        have hb1 : Below w.heap.size w w1 := below_own (Below.refl _ _) hg1 (Nat.le_refl _) (fun k hk => by simp [Value.ownBlock] at hk)
        have hbv := own_block hown1
        go_region_held3 (fun _ => True) (trivial) ((first | (refine step_append_any _ (by rfl) (.tmp 38) (.tmp 40) 26 (by rfl) w.heap.size 3 i0 _ 1 8 Tryd.underlying26 hi0 hz0 hz1 hz2 rfl (by omega) v1 (0 + k) ([] ++ ints (xs.take k)) (by rfl) ((hown1.alloc _).drew) _ (some ⟨w1.heap.size, 0, none⟩) 1 1 (ints [x]) (by rfl) ((RI.one x).drew) (ints_one _) (by unfold maxLen; omega) (by omega) (by simp; omega) ?_; intro v2 w2 hown2 hg2 hat2; have hb2 := below_own ((hb1.alloc hs1 _).drew) hg2 (by simp; omega) hbv) | (refine step_append_any _ (by rfl) (.tmp 41) (.tmp 44) 26 (by rfl) w.heap.size 3 i0 _ 1 8 Tryd.underlying26 hi0 hz0 hz1 hz2 rfl (by omega) v2 _ _ (by rfl) hown2 w2.heap.size _ (n - k) (c - k) (ints (xs.drop k)) (by rfl) (RI.cut (RI.below h hb2 (Nat.le_refl _)) hk hnc) (ints_one _) (by unfold maxLen; omega) (by omega) hb2.size ?_; intro v3 w3 hown3 hg3 hat3)))
        have hb3 := below_own hb2 hg3 hb2.size (own_block hown2)
        have hfin : RetI w (putL xs x) (.returned v3) w3 := by
          refine RetI.own (B := w.heap.size) (e := 3) (n := 0 + k + 1 + (n - k)) ?_ hb3 (Nat.le_refl _)
          rw [hf.out, ints_append, ints_append]
          simpa using hown3
        replace hfin := Lib.hid hfin
        go_wp2
        all_goals go_ret
        all_goals
          obtain ⟨A2, n2, c2, r1, r2, r3, r4, r5⟩ := hfin.out
          exact ⟨A2, n2, c2, r1, r2, r3, r4, .inr r5⟩
end Go.Proofs.YtknlmgcbdcepnaaDoor
