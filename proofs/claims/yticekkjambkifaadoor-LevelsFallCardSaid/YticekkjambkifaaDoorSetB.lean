/- The reference's sets of nodes (cohesionref02), first part: membership, order, a number put into a set. -/
import Derived.Test.YticekkjambkifaaDoorZaa
import Derived.Deep.RegionHeld3
set_option linter.unusedVariables false
namespace Go.Proofs.YticekkjambkifaaDoor
open Go.RowKit

theorem take_at {xs : List Int} {k : Nat} {y : Int} (h : xs[k]? = some y) : xs.take (k + 1) = xs.take k ++ [y] := by
  obtain ⟨hk, rfl⟩ := List.getElem?_eq_some_iff.1 h
  exact List.take_succ_eq_append_getElem hk
theorem drop_at {xs : List Int} {k : Nat} {y : Int} (h : xs[k]? = some y) : xs.drop k = y :: xs.drop (k + 1) := by
  obtain ⟨hk, rfl⟩ := List.getElem?_eq_some_iff.1 h
  exact List.drop_eq_getElem_cons hk
theorem mem_at {xs : List Int} {k : Nat} {y : Int} (h : xs[k]? = some y) : y ∈ xs := List.mem_of_getElem? h

set_option maxHeartbeats 400000 in
theorem has_any (A : Option Addr) (n c : Nat) (xs : List Int) (x : Int) (w : World) (h : RI w A n xs) (hn : n ≤ 4611686018427387904) :
    Calls Tryd.prog 77 #[.slice A n c, .int .i64 x] w fun e w' => e = .returned (.bool (decide (x ∈ xs))) ∧ w = w' := by
  have hl := Lib.hid h.len
  go_enter Tryd.func77, Tryd.ntmps77
  go_wp2
  go_loop [9] (fun i => ∃ k : Nat, k ≤ n ∧ i = .int .i64 k ∧ Hid (x ∉ xs.take k)) (fun i => n - (intOf i).toNat)
  case atStart => exact ⟨0, Nat.zero_le _, rfl, Lib.hid (by simp)⟩
  case round =>
    obtain ⟨k, hk, rfl, hx⟩ := hrel
    by_cases hlt : k < n
    · obtain ⟨ad, y, rfl, hy, hc⟩ := h.get hlt
      by_cases he : y = x
      · subst he
        have hm := Lib.hid (mem_at hy.out)
        go_wp2
        go_ret
        exact ⟨retBool (decide_eq_true hm.out).symm, rfl⟩
      · have he' : (y == x) = false := by simpa using he
        have hm : Hid (x ∉ xs.take (k + 1)) := by
          refine Lib.hid ?_
          rw [take_at hy.out, List.mem_append]
          rintro (h1 | h1)
          · exact hx.out h1
          · exact he (List.mem_singleton.1 h1).symm
        clear he
        go_wp2
        go_round
        case rel => exact ⟨k + 1, by omega, by go_num, hm⟩
        case measure => simp [intOf]; omega
    · have hm : x ∉ xs := by
        have := hx.out
        rwa [List.take_of_length_le (by rw [hl.out]; omega)] at this
      replace hm := Lib.hid hm
      go_wp2
      go_ret
      exact ⟨retBool (decide_eq_false hm.out).symm, rfl⟩

/-- The numbers are ascending nodes below m. -/
def Vld (xs : List Int) (m : Int) : Prop := (∀ x ∈ xs, 0 ≤ x ∧ x < m) ∧ xs.Pairwise (· < ·)
instance (xs : List Int) (m : Int) : Decidable (Vld xs m) := by unfold Vld; infer_instance
theorem vld_nil (m : Int) : Vld [] m := ⟨by simp, List.Pairwise.nil⟩
theorem vld_take {xs : List Int} {m : Int} (h : Vld xs m) (k : Nat) : Vld (xs.take k) m := ⟨fun x hx => h.1 x (List.mem_of_mem_take hx), h.2.take⟩
theorem vld_first {xs : List Int} {m y : Int} {k : Nat} (hy : xs[k]? = some y) (hk : k = 0) (h0 : 0 ≤ y) (h1 : y < m) : Vld (xs.take (k + 1)) m := by
  subst hk; rw [take_at hy]; simp [Vld, h0, h1]
theorem vld_next {xs : List Int} {m y z : Int} {k : Nat} (h : Vld (xs.take k) m) (hz : xs[k - 1]? = some z) (hy : xs[k]? = some y) (hk : 0 < k) (h0 : 0 ≤ y) (h1 : y < m) (hlt : z < y) : Vld (xs.take (k + 1)) m := by
  obtain ⟨j, rfl⟩ : ∃ j, k = j + 1 := ⟨k - 1, by omega⟩
  rw [Nat.add_sub_cancel] at hz
  rw [take_at hy]
  refine ⟨?_, ?_⟩
  · intro x hx
    rcases List.mem_append.1 hx with hx | hx
    · exact h.1 x hx
    · rw [List.mem_singleton.1 hx]; exact ⟨h0, h1⟩
  · rw [List.pairwise_append]
    refine ⟨h.2, List.pairwise_singleton _ _, ?_⟩
    intro a ha b hb
    rw [List.mem_singleton.1 hb]
    have h2 := h.2
    rw [take_at hz] at ha h2
    rw [List.pairwise_append] at h2
    rcases List.mem_append.1 ha with ha | ha
    · exact Int.lt_trans (h2.2.2 a ha z (by simp)) hlt
    · rw [List.mem_singleton.1 ha]; exact hlt
theorem vld_out {xs : List Int} {m y : Int} {k : Nat} (hy : xs[k]? = some y) (h : ¬ (0 ≤ y ∧ y < m)) : ¬ Vld xs m := fun hv => h (hv.1 y (mem_at hy))
theorem vld_down {xs : List Int} {m y z : Int} {k : Nat} (hz : xs[k - 1]? = some z) (hy : xs[k]? = some y) (hk : 0 < k) (h : y ≤ z) : ¬ Vld xs m := fun hv => by
  obtain ⟨j, rfl⟩ : ∃ j, k = j + 1 := ⟨k - 1, by omega⟩
  rw [Nat.add_sub_cancel] at hz
  have := List.pairwise_iff_getElem.1 hv.2
  obtain ⟨h1, rfl⟩ := List.getElem?_eq_some_iff.1 hz
  obtain ⟨h2, rfl⟩ := List.getElem?_eq_some_iff.1 hy
  have := this j (j + 1) h1 h2 (by omega)
  omega

set_option maxHeartbeats 1000000 in
theorem valid_any (A : Option Addr) (n c : Nat) (xs : List Int) (m : Int) (w : World) (h : RI w A n xs) (hn : n ≤ 4611686018427387904) :
    Calls Tryd.prog 74 #[.slice A n c, .int .i64 m] w fun e w' => e = .returned (.bool (decide (Vld xs m))) ∧ w = w' := by
  have hl := Lib.hid h.len
  go_enter Tryd.func74, Tryd.ntmps74
  go_wp2
  go_loop [9] (fun i => ∃ k : Nat, k ≤ n ∧ i = .int .i64 k ∧ Hid (Vld (xs.take k) m)) (fun i => n - (intOf i).toNat)
  case atStart => exact ⟨0, Nat.zero_le _, rfl, Lib.hid (vld_nil m)⟩
  case round =>
    obtain ⟨k, hk, rfl, hx⟩ := hrel
    by_cases hlt : k < n
    · obtain ⟨ad, y, rfl, hy, hc⟩ := h.get hlt
      by_cases hb : 0 ≤ y ∧ y < m
      · obtain ⟨hb0, hb1⟩ := hb
        by_cases hk0 : 0 < k
        · obtain ⟨ad', z, had, hz, hcz⟩ := h.get (show k - 1 < n by omega)
          obtain rfl : ad = ad' := by injection had
          clear had
          by_cases hzy : z < y
          · have hv := Lib.hid (vld_next hx.out hz.out hy.out hk0 hb0 hb1 hzy)
            go_wp2
            go_round
            case rel => exact ⟨k + 1, by omega, by go_num, hv⟩
            case measure => simp [intOf]; omega
          · have hv := Lib.hid (vld_down (m := m) hz.out hy.out hk0 (by omega))
            go_wp2
            go_ret
            exact ⟨retBool (decide_eq_false hv.out).symm, rfl⟩
        · have hv := Lib.hid (vld_first hy.out (by omega) hb0 hb1)
          go_wp2
          go_round
          case rel => exact ⟨k + 1, by omega, by go_num, hv⟩
          case measure => simp [intOf]; omega
      · have hv := Lib.hid (vld_out hy.out hb)
        by_cases hb0 : y < 0
        · clear hb
          go_wp2
          go_ret
          exact ⟨retBool (decide_eq_false hv.out).symm, rfl⟩
        · have hb1 : m ≤ y := by omega
          clear hb
          go_wp2
          go_ret
          exact ⟨retBool (decide_eq_false hv.out).symm, rfl⟩
    · have hv : Vld xs m := by
        have := hx.out
        rwa [List.take_of_length_le (by rw [hl.out]; omega)] at this
      replace hv := Lib.hid hv
      go_wp2
      go_ret
      exact ⟨retBool (decide_eq_true hv.out).symm, rfl⟩

/-- A number put into a set. -/
def putL : List Int → Int → List Int
  | [], x => [x]
  | y :: ys, x => if y < x then y :: putL ys x else if y = x then y :: ys else x :: y :: ys
theorem put_step {xs : List Int} {x y : Int} {k : Nat} (h : putL xs x = xs.take k ++ putL (xs.drop k) x) (hy : xs[k]? = some y) (hlt : y < x) : putL xs x = xs.take (k + 1) ++ putL (xs.drop (k + 1)) x := by
  rw [h, take_at hy, drop_at hy]
  simp [putL, hlt]
theorem put_same {xs : List Int} {x : Int} {k : Nat} (h : putL xs x = xs.take k ++ putL (xs.drop k) x) (hy : xs[k]? = some x) : putL xs x = xs := by
  rw [h, drop_at hy]
  simp only [putL, Int.lt_irrefl, if_false, if_true]
  rw [← drop_at hy, List.take_append_drop]
theorem put_here {xs : List Int} {x y : Int} {k : Nat} (h : putL xs x = xs.take k ++ putL (xs.drop k) x) (hy : xs[k]? = some y) (h1 : ¬ y < x) (h2 : y ≠ x) : putL xs x = xs.take k ++ [x] ++ xs.drop k := by
  rw [h, drop_at hy]
  simp [putL, h1, h2]
theorem put_end {xs : List Int} {x : Int} {k : Nat} (h : putL xs x = xs.take k ++ putL (xs.drop k) x) (hk : xs.length ≤ k) : putL xs x = xs.take k ++ [x] ++ xs.drop k := by
  rw [h, List.drop_of_length_le hk]
  simp [putL]

set_option maxRecDepth 100000 in
set_option maxHeartbeats 1000000 in
theorem put_any (A : Option Addr) (n c : Nat) (xs : List Int) (x : Int) (w : World) (h : RI w A n xs) (hnc : n ≤ c) (hn : n ≤ 1099511627776) :
    Calls Tryd.prog 103 #[.slice A n c, .int .i64 x] w (fun e w' => ∃ A' n' c', e = .returned (.slice A' n' c') ∧ n' ≤ c' ∧ RI w' A' n' (putL xs x) ∧ Below w.heap.size w w' ∧ (A' = A ∨ Fr w.heap.size A')) := by
  have hl := Lib.hid h.len
  obtain ⟨i0, hi0, hz0, hz1, hz2⟩ := info_parts int_info
  go_enter Tryd.func103, Tryd.ntmps103
  go_wp2
  go_loop [5] (fun i => ∃ k : Nat, k ≤ n ∧ i = .int .i64 k ∧ Hid (putL xs x = xs.take k ++ putL (xs.drop k) x)) (fun i => n - (intOf i).toNat)
  case atStart => exact ⟨0, Nat.zero_le _, rfl, Lib.hid (by simp)⟩
  case round =>
    obtain ⟨k, hk, rfl, hx⟩ := hrel
    have hr := h.head hk
    have b0 : (0 : Int) ≤ (k : Int) := Int.natCast_nonneg _
    have b1 : (k : Int) ≤ (n : Int) := by omega
    have b2 : (k : Int) ≤ (c : Int) := by omega
    have b3 : (n : Int) ≤ (c : Int) := by omega
    have hways : (∃ ad, A = some ad ∧ k < n ∧ Hid (xs[k]? = some x) ∧ w.cell? (ad.add k) = some (.int .i64 x)) ∨ (∃ ad y, A = some ad ∧ k < n ∧ y < x ∧ Hid (xs[k]? = some y) ∧ w.cell? (ad.add k) = some (.int .i64 y)) ∨
        (Hid (putL xs x = xs.take k ++ [x] ++ xs.drop k) ∧ (¬ k < n ∨ ∃ ad y, A = some ad ∧ k < n ∧ x < y ∧ (y == x) = false ∧ w.cell? (ad.add k) = some (.int .i64 y))) := by
      by_cases hlt : k < n
      · obtain ⟨ad, y, h1, h2, h3⟩ := h.get hlt
        rcases Int.lt_trichotomy y x with hh | rfl | hh
        · exact .inr (.inl ⟨ad, y, h1, hlt, hh, h2, h3⟩)
        · exact .inl ⟨ad, h1, hlt, h2, h3⟩
        · exact .inr (.inr ⟨Lib.hid (put_here hx.out h2.out (by omega) (by omega)), .inr ⟨ad, y, h1, hlt, hh, by simp; omega, h3⟩⟩)
      · exact .inr (.inr ⟨Lib.hid (put_end hx.out (by rw [hl.out]; omega)), .inl hlt⟩)
    rcases hways with ⟨ad, rfl, hlt, hy, hc⟩ | ⟨ad, y, rfl, hlt, hyx, hy, hc⟩ | ⟨hf, hlt⟩
    · have hs := Lib.hid (put_same hx.out hy.out)
      go_wp2
      go_ret
      exact ⟨_, _, _, rfl, hnc, by rw [hs.out]; exact h, Below.refl _ _, .inl rfl⟩
    · have hs := Lib.hid (put_step hx.out hy.out hyx)
      go_wp2
      go_round
      case rel => exact ⟨k + 1, by omega, by go_num, hs⟩
      case measure => simp [intOf]; omega
    · have hlen : n - k ≤ n := by omega
      rcases hlt with hlt | ⟨ad, y, rfl, hlt, hxy, hne, hc⟩
      all_goals
        go_wp2_with (at_builtin; refine wpList_append_any _ rfl _ _ 22 rfl w.heap.size 3 i0 _ 1 8 Tryd.underlying22 hi0 hz0 hz1 hz2 rfl (by omega) (.slice none 0 0) 0 [] rfl (World.ownsRow_nil _ _ _ _) w.heap.size _ k c (ints (xs.take k)) rfl hr (ints_one _) (by unfold maxLen; omega) (by omega) (Nat.le_refl _) ?_; intro v1 w1 hown1 hg1 hat1)
        have hs1 := hg1.size
        have hb1 : Below w.heap.size w w1 := below_own (Below.refl _ _) hg1 (Nat.le_refl _) (fun k hk => by simp [Value.ownBlock] at hk)
        have hbv := own_block hown1
        go_region_held3 (fun _ => True) (trivial) ((first | (refine step_append_any _ (by rfl) (.tmp 38) (.tmp 40) 22 (by rfl) w.heap.size 3 i0 _ 1 8 Tryd.underlying22 hi0 hz0 hz1 hz2 rfl (by omega) v1 (0 + k) ([] ++ ints (xs.take k)) (by rfl) ((hown1.alloc _).drew) _ (some ⟨w1.heap.size, 0, none⟩) 1 1 (ints [x]) (by rfl) ((RI.one x).drew) (ints_one _) (by unfold maxLen; omega) (by omega) (by simp; omega) ?_; intro v2 w2 hown2 hg2 hat2; have hb2 := below_own ((hb1.alloc hs1 _).drew) hg2 (by simp; omega) hbv) | (refine step_append_any _ (by rfl) (.tmp 41) (.tmp 44) 22 (by rfl) w.heap.size 3 i0 _ 1 8 Tryd.underlying22 hi0 hz0 hz1 hz2 rfl (by omega) v2 _ _ (by rfl) hown2 w2.heap.size _ (n - k) (c - k) (ints (xs.drop k)) (by rfl) (RI.cut (RI.below h hb2 (Nat.le_refl _)) hk hnc) (ints_one _) (by unfold maxLen; omega) (by omega) hb2.size ?_; intro v3 w3 hown3 hg3 hat3)))
        have hb3 := below_own hb2 hg3 hb2.size (own_block hown2)
        have hfin : RetI w (putL xs x) (.returned v3) w3 := by
          refine RetI.own (B := w.heap.size) (e := 3) (n := 0 + k + 1 + (n - k)) ?_ hb3 (Nat.le_refl _)
          rw [hf.out, ints_append, ints_append]
          simpa using hown3
        replace hfin := Lib.hid hfin
        go_wp2
        all_goals go_ret
        all_goals
          obtain ⟨A2, n2, c2, r1, r2, r3, r4, r5⟩ := hfin.out
          exact ⟨A2, n2, c2, r1, r2, r3, r4, .inr r5⟩
end Go.Proofs.YticekkjambkifaaDoor

namespace Go.Proofs.YticekkjambkifaaDoor
open Go.RowKit

/-- The set of a list. -/
def ofL (xs : List Int) : List Int := xs.foldl putL []
theorem of_take {xs : List Int} {k : Nat} {y : Int} (h : xs[k]? = some y) : ofL (xs.take (k + 1)) = putL (ofL (xs.take k)) y := by
  unfold ofL; rw [take_at h, List.foldl_append]; rfl
theorem put_length (xs : List Int) (x : Int) : (putL xs x).length ≤ xs.length + 1 := by
  induction xs with
  | nil => simp [putL]
  | cons y ys ih => unfold putL; split <;> (try split) <;> simp <;> omega
theorem foldl_put_length (xs acc : List Int) : (xs.foldl putL acc).length ≤ acc.length + xs.length := by
  induction xs generalizing acc with
  | nil => simp
  | cons x xs ih => have := ih (putL acc x); have := put_length acc x; simp; omega
theorem of_length (xs : List Int) : (ofL xs).length ≤ xs.length := by have := foldl_put_length xs []; simpa [ofL] using this
theorem of_take_length (xs : List Int) (k : Nat) : (ofL (xs.take k)).length ≤ k := Nat.le_trans (of_length _) (by rw [List.length_take]; omega)

set_option maxHeartbeats 400000 in
theorem of_any (A : Option Addr) (n c : Nat) (xs : List Int) (w : World) (h : RI w A n xs) (hn : n ≤ 1099511627776) :
    Calls Tryd.prog 68 #[.slice A n c] w (RetI w (ofL xs)) := by
  have hl := Lib.hid h.len
  go_enter Tryd.func68, Tryd.ntmps68
  go_wp2
  go_loopw [3, 8] (fun v i wr => ∃ k m cc : Nat, ∃ A' : Option Addr, k ≤ n ∧ i = .int .i64 k ∧ v = .slice A' m cc ∧ m ≤ cc ∧ m ≤ k ∧ RI wr A' m (ofL (xs.take k)) ∧ Below w.heap.size w wr ∧ Fr w.heap.size A') (fun _ i _ => n - (intOf i).toNat)
  case atStart => exact ⟨0, 0, 0, none, Nat.zero_le _, rfl, rfl, Nat.le_refl _, Nat.le_refl _, RI.none_, Below.refl _ _, Fr.none_⟩
  case round =>
    obtain ⟨k, m, cc, A', hk, rfl, rfl, hmc, hmk, hr, hb, hf⟩ := hrel
    by_cases hlt : k < n
    · obtain ⟨ad, y, rfl, hy, hc⟩ := (RI.below h hb (Nat.le_refl _)).get hlt
      go_wp2_with fail
      refine (put_any A' m cc _ y _ hr hmc (by omega)).mono ?_
      rintro e w' ⟨A2, n2, c2, rfl, h1, h2, h3, h4⟩
      replace hf : Fr w.heap.size A2 := by
        rcases h4 with rfl | h4
        · exact hf
        · exact h4.mono hb.size
      clear h4
      have hlen : n2 ≤ k + 1 := by
        rw [← h2.len, ← of_take hy.out]
        exact of_take_length _ _
      have hr2 : RI w' A2 n2 (ofL (xs.take (k + 1))) := by rw [of_take hy.out]; exact h2
      have hb2 := hb.trans (h3.mono hb.size)
      clear h2 h3 hr hb
      go_wp2
      go_roundw
      case rel => exact ⟨k + 1, n2, c2, A2, by omega, by go_num, rfl, h1, hlen, hr2, hb2, hf⟩
      case measure => simp [intOf]; omega
    · have hfin : RetI w (ofL xs) (.returned (.slice A' m cc)) wr := by
        refine RetI.mk_ hmc ?_ hb hf
        rwa [List.take_of_length_le (by rw [hl.out]; omega)] at hr
      replace hfin := Lib.hid hfin
      clear hr hb
      go_wp2
      go_ret
      exact hfin.out
theorem meet_take {xs ys : List Int} {k : Nat} {y : Int} (h : xs[k]? = some y) (hd : y ∈ ys) : (xs.take (k + 1)).filter (fun x => x ∈ ys) = (xs.take k).filter (fun x => x ∈ ys) ++ [y] := by
  rw [take_at h, List.filter_append]; simp [hd]
theorem meet_skip {xs ys : List Int} {k : Nat} {y : Int} (h : xs[k]? = some y) (hd : ¬ (y ∈ ys)) : (xs.take (k + 1)).filter (fun x => x ∈ ys) = (xs.take k).filter (fun x => x ∈ ys) := by
  rw [take_at h, List.filter_append]; simp [hd]
/-- What two sets have in common. -/
def meetL (xs ys : List Int) : List Int := (ofL xs).filter (fun x => x ∈ ys)
set_option maxHeartbeats 400000 in
theorem meet_any (A A' : Option Addr) (n c n' c' : Nat) (xs ys : List Int) (w : World) (h : RI w A n xs) (hn : n ≤ 1099511627776) (h' : RI w A' n' ys) (hn' : n' ≤ 1099511627776) :
    Calls Tryd.prog 47 #[.slice A n c, .slice A' n' c'] w (RetI w (meetL xs ys)) := by
  have hol : (ofL xs).length ≤ n := by rw [← h.len]; exact of_length xs
  go_enter Tryd.func47, Tryd.ntmps47
  go_wp2_with fail
  refine (of_any A n c xs _ h hn).mono ?_
  rintro e w1 ⟨B, m, cc, rfl, hmc, hr, hb, _⟩
  have hmn : m ≤ n := by rw [← hr.len]; exact hol
  have hml := Lib.hid hr.len
  have hs1 := hb.size
  replace h' := RI.below h' hb (Nat.le_refl _)
  have hdef : meetL xs ys = (ofL xs).filter (fun x => x ∈ ys) := rfl
  generalize ofL xs = zs at *
  replace hdef := Lib.hid hdef
  go_wp2
  go_loopw [5, 11] (fun v i wr => ∃ k : Nat, k ≤ m ∧ i = .int .i64 k ∧ OI wr w1.heap.size v ((zs.take k).filter (fun x => x ∈ ys)) ∧ Below w1.heap.size w1 wr) (fun _ i _ => m - (intOf i).toNat)
  case atStart => exact ⟨0, Nat.zero_le _, rfl, OI.nil_, Below.refl _ _⟩
  case round =>
    obtain ⟨k, hk, rfl, ho, hb1⟩ := hrel
    by_cases hlt : k < m
    · obtain ⟨ad, y, rfl, hy, hc⟩ := (RI.below hr hb1 (Nat.le_refl _)).get hlt
      have hs2 := hb1.size
      have hlen : ((zs.take k).filter (fun x => x ∈ ys)).length ≤ k := Nat.le_trans (List.length_filter_le _ _) (by rw [List.length_take]; omega)
      by_cases hin : y ∈ ys
      · have hin' := Lib.hid (meet_take (ys := ys) hy.out hin)
        have hbool : decide (y ∈ ys) = true := by simpa using hin
        clear hin
        generalize (zs.take k).filter (fun x => x ∈ ys) = us at *
        go_wp2_with fail
        refine (has_any A' n' c' ys y _ (RI.below h' hb1 (Nat.le_refl _)) (by omega)).mono ?_
        rintro e w2 ⟨rfl, rfl⟩
        rw [hbool]
        clear hbool
        go_wp2_with (at_builtin; refine wpList_push rfl _ _ rfl rfl rfl (by simp) ho (by omega) hs2 ?_; intro v' w' ho' hb' hg')
        have hb2 := hb1.trans (hb'.mono (by exact Nat.le_refl _))
        go_roundw
        case rel => exact ⟨k + 1, by omega, by go_num, by rw [hin'.out]; exact ho', hb2⟩
        case measure => simp [intOf]; omega
      · have hin' := Lib.hid (meet_skip (ys := ys) hy.out hin)
        have hbool : decide (y ∈ ys) = false := by simpa using hin
        clear hin
        generalize (zs.take k).filter (fun x => x ∈ ys) = us at *
        go_wp2_with fail
        refine (has_any A' n' c' ys y _ (RI.below h' hb1 (Nat.le_refl _)) (by omega)).mono ?_
        rintro e w2 ⟨rfl, rfl⟩
        rw [hbool]
        clear hbool
        go_wp2
        go_roundw
        case rel => exact ⟨k + 1, by omega, by go_num, by rw [hin'.out]; exact ho, hb1⟩
        case measure => simp [intOf]; omega
    · have hfin : RetI w (meetL xs ys) (.returned u5) wr := by
        rw [hdef.out]
        refine OI.ret (B := w1.heap.size) ?_ (hb.trans (hb1.mono hs1)) hs1
        rwa [List.take_of_length_le (by rw [hml.out]; omega)] at ho
      replace hfin := Lib.hid hfin
      clear ho hb1
      go_wp2
      go_ret
      exact hfin.out

theorem minus_take {xs ys : List Int} {k : Nat} {y : Int} (h : xs[k]? = some y) (hd : y ∉ ys) : (xs.take (k + 1)).filter (fun x => x ∉ ys) = (xs.take k).filter (fun x => x ∉ ys) ++ [y] := by
  rw [take_at h, List.filter_append]; simp [hd]
theorem minus_skip {xs ys : List Int} {k : Nat} {y : Int} (h : xs[k]? = some y) (hd : ¬ (y ∉ ys)) : (xs.take (k + 1)).filter (fun x => x ∉ ys) = (xs.take k).filter (fun x => x ∉ ys) := by
  rw [take_at h, List.filter_append]; simp [hd]
/-- A set without another one. -/
def minusL (xs ys : List Int) : List Int := (ofL xs).filter (fun x => x ∉ ys)
set_option maxHeartbeats 400000 in
theorem minus_any (A A' : Option Addr) (n c n' c' : Nat) (xs ys : List Int) (w : World) (h : RI w A n xs) (hn : n ≤ 1099511627776) (h' : RI w A' n' ys) (hn' : n' ≤ 1099511627776) :
    Calls Tryd.prog 37 #[.slice A n c, .slice A' n' c'] w (RetI w (minusL xs ys)) := by
  have hol : (ofL xs).length ≤ n := by rw [← h.len]; exact of_length xs
  go_enter Tryd.func37, Tryd.ntmps37
  go_wp2_with fail
  refine (of_any A n c xs _ h hn).mono ?_
  rintro e w1 ⟨B, m, cc, rfl, hmc, hr, hb, _⟩
  have hmn : m ≤ n := by rw [← hr.len]; exact hol
  have hml := Lib.hid hr.len
  have hs1 := hb.size
  replace h' := RI.below h' hb (Nat.le_refl _)
  have hdef : minusL xs ys = (ofL xs).filter (fun x => x ∉ ys) := rfl
  generalize ofL xs = zs at *
  replace hdef := Lib.hid hdef
  go_wp2
  go_loopw [5, 11] (fun v i wr => ∃ k : Nat, k ≤ m ∧ i = .int .i64 k ∧ OI wr w1.heap.size v ((zs.take k).filter (fun x => x ∉ ys)) ∧ Below w1.heap.size w1 wr) (fun _ i _ => m - (intOf i).toNat)
  case atStart => exact ⟨0, Nat.zero_le _, rfl, OI.nil_, Below.refl _ _⟩
  case round =>
    obtain ⟨k, hk, rfl, ho, hb1⟩ := hrel
    by_cases hlt : k < m
    · obtain ⟨ad, y, rfl, hy, hc⟩ := (RI.below hr hb1 (Nat.le_refl _)).get hlt
      have hs2 := hb1.size
      have hlen : ((zs.take k).filter (fun x => x ∉ ys)).length ≤ k := Nat.le_trans (List.length_filter_le _ _) (by rw [List.length_take]; omega)
      by_cases hin : y ∉ ys
      · have hin' := Lib.hid (minus_take (ys := ys) hy.out hin)
        have hbool : decide (y ∈ ys) = false := by simpa using hin
        clear hin
        generalize (zs.take k).filter (fun x => x ∉ ys) = us at *
        go_wp2_with fail
        refine (has_any A' n' c' ys y _ (RI.below h' hb1 (Nat.le_refl _)) (by omega)).mono ?_
        rintro e w2 ⟨rfl, rfl⟩
        rw [hbool]
        clear hbool
        go_wp2_with (at_builtin; refine wpList_push rfl _ _ rfl rfl rfl (by simp) ho (by omega) hs2 ?_; intro v' w' ho' hb' hg')
        have hb2 := hb1.trans (hb'.mono (by exact Nat.le_refl _))
        go_roundw
        case rel => exact ⟨k + 1, by omega, by go_num, by rw [hin'.out]; exact ho', hb2⟩
        case measure => simp [intOf]; omega
      · have hin' := Lib.hid (minus_skip (ys := ys) hy.out hin)
        have hbool : decide (y ∈ ys) = true := by simpa using hin
        clear hin
        generalize (zs.take k).filter (fun x => x ∉ ys) = us at *
        go_wp2_with fail
        refine (has_any A' n' c' ys y _ (RI.below h' hb1 (Nat.le_refl _)) (by omega)).mono ?_
        rintro e w2 ⟨rfl, rfl⟩
        rw [hbool]
        clear hbool
        go_wp2
        go_roundw
        case rel => exact ⟨k + 1, by omega, by go_num, by rw [hin'.out]; exact ho, hb1⟩
        case measure => simp [intOf]; omega
    · have hfin : RetI w (minusL xs ys) (.returned u5) wr := by
        rw [hdef.out]
        refine OI.ret (B := w1.heap.size) ?_ (hb.trans (hb1.mono hs1)) hs1
        rwa [List.take_of_length_le (by rw [hml.out]; omega)] at ho
      replace hfin := Lib.hid hfin
      clear ho hb1
      go_wp2
      go_ret
      exact hfin.out

theorem in_step {xs ys : List Int} {k : Nat} {y : Int} (h : xs[k]? = some y) (ha : ∀ x ∈ xs.take k, x ∈ ys) (hy : y ∈ ys) : ∀ x ∈ xs.take (k + 1), x ∈ ys := by
  rw [take_at h]; intro x hx
  rcases List.mem_append.1 hx with hx | hx
  · exact ha x hx
  · rw [List.mem_singleton.1 hx]; exact hy
set_option maxHeartbeats 400000 in
theorem within2_any (A A' : Option Addr) (n c n' c' : Nat) (xs ys : List Int) (w : World) (h : RI w A n xs) (hn : n ≤ 1099511627776) (h' : RI w A' n' ys) (hn' : n' ≤ 1099511627776) :
    Calls Tryd.prog 46 #[.slice A n c, .slice A' n' c'] w fun e w' => e = .returned (.bool (decide (∀ x ∈ xs, x ∈ ys))) ∧ w = w' := by
  have hl := Lib.hid h.len
  go_enter Tryd.func46, Tryd.ntmps46
  go_wp2
  go_loop [9] (fun i => ∃ k : Nat, k ≤ n ∧ i = .int .i64 k ∧ Hid (∀ x ∈ xs.take k, x ∈ ys)) (fun i => n - (intOf i).toNat)
  case atStart => exact ⟨0, Nat.zero_le _, rfl, Lib.hid (by simp)⟩
  case round =>
    obtain ⟨k, hk, rfl, ha⟩ := hrel
    by_cases hlt : k < n
    · obtain ⟨ad, y, rfl, hy, hc⟩ := h.get hlt
      by_cases hin : y ∈ ys
      · have ha' := Lib.hid (in_step hy.out ha.out hin)
        have hbool : decide (y ∈ ys) = true := by simpa using hin
        clear hin
        go_wp2_with fail
        refine (has_any A' n' c' ys y _ h' (by omega)).mono ?_
        rintro e w2 ⟨rfl, rfl⟩
        rw [hbool]
        clear hbool
        go_wp2
        go_round
        case rel => exact ⟨k + 1, by omega, by go_num, ha'⟩
        case measure => simp [intOf]; omega
      · have ha' : ¬ ∀ x ∈ xs, x ∈ ys := fun hh => hin (hh y (mem_at hy.out))
        replace ha' := Lib.hid ha'
        have hbool : decide (y ∈ ys) = false := by simpa using hin
        clear hin
        go_wp2_with fail
        refine (has_any A' n' c' ys y _ h' (by omega)).mono ?_
        rintro e w2 ⟨rfl, rfl⟩
        rw [hbool]
        clear hbool
        go_wp2
        go_ret
        exact ⟨retBool (decide_eq_false ha'.out).symm, rfl⟩
    · have hv : ∀ x ∈ xs, x ∈ ys := by
        have := ha.out
        rwa [List.take_of_length_le (by rw [hl.out]; omega)] at this
      replace hv := Lib.hid hv
      go_wp2
      go_ret
      exact ⟨retBool (decide_eq_true hv.out).symm, rfl⟩

/-- Lists in order. -/
def cmpL : List Int → List Int → Int
  | [], [] => 0
  | [], _ :: _ => -1
  | _ :: _, [] => 1
  | x :: xs, y :: ys => if y < x then 1 else if x < y then -1 else cmpL xs ys
theorem cmp_zero (xs ys : List Int) : cmpL xs ys = 0 ↔ xs = ys := by
  induction xs generalizing ys with
  | nil => cases ys <;> simp [cmpL]
  | cons x xs ih =>
    cases ys with
    | nil => simp [cmpL]
    | cons y ys =>
      unfold cmpL
      split
      · simp; intro; omega
      · split
        · simp; intro; omega
        · rw [ih, List.cons.injEq]
          constructor
          · intro h; exact ⟨by omega, h⟩
          · intro h; exact h.2
theorem cmp_step {xs ys : List Int} {k : Nat} {x y : Int} (hx : xs[k]? = some x) (hy : ys[k]? = some y) : cmpL (xs.drop k) (ys.drop k) = if y < x then 1 else if x < y then -1 else cmpL (xs.drop (k + 1)) (ys.drop (k + 1)) := by
  rw [drop_at hx, drop_at hy]; rfl
theorem cmp_long {xs ys : List Int} {k : Nat} {x : Int} (hx : xs[k]? = some x) (hy : ys.length ≤ k) : cmpL (xs.drop k) (ys.drop k) = 1 := by
  rw [drop_at hx, List.drop_of_length_le hy]; rfl
theorem cmp_short {xs ys : List Int} {k : Nat} (hx : xs.length ≤ k) : cmpL (xs.drop k) (ys.drop k) = if k < ys.length then -1 else 0 := by
  rw [List.drop_of_length_le hx]
  split
  · rename_i h; rw [List.drop_eq_getElem_cons h]; rfl
  · rename_i h; rw [List.drop_of_length_le (by omega)]; rfl
set_option maxHeartbeats 2000000 in
theorem cmp2_any (A A' : Option Addr) (n c n' c' : Nat) (xs ys : List Int) (w : World) (h : RI w A n xs) (hn : n ≤ 1099511627776) (h' : RI w A' n' ys) (hn' : n' ≤ 1099511627776) :
    Calls Tryd.prog 59 #[.slice A n c, .slice A' n' c'] w fun e w' => e = .returned (.int .i64 (cmpL xs ys)) ∧ ∃ q, w' = w.drewN q := by
  have hl := Lib.hid h.len
  have hl' := Lib.hid h'.len
  go_enter Tryd.func59, Tryd.ntmps59
  go_wp2
  go_loopw [8] (fun i wr => ∃ k q : Nat, k ≤ n ∧ k ≤ n' ∧ i = .int .i64 k ∧ wr = w.drewN q ∧ Hid (cmpL xs ys = cmpL (xs.drop k) (ys.drop k))) (fun i _ => n - (intOf i).toNat)
  case atStart => exact ⟨0, 0, Nat.zero_le _, Nat.zero_le _, rfl, rfl, Lib.hid rfl⟩
  case round =>
    obtain ⟨k, q, hk, hk', rfl, rfl, hd⟩ := hrel
    by_cases hlt : k < n
    · obtain ⟨ad, x, rfl, hx, hc⟩ := h.get hlt
      by_cases hlt' : k < n'
      · obtain ⟨ad', y, rfl, hy, hc'⟩ := h'.get hlt'
        have hd' := Lib.hid (hd.out.trans (cmp_step hx.out hy.out))
        have i0 : (0 : Int) ≤ (k : Int) := Int.natCast_nonneg _
        have i1 : (k : Int) < (n : Int) := by omega
        have i2 : (k : Int) < (n' : Int) := by omega
        have g1 : decide ((n' : Int) ≤ (k : Int)) = false := by simp; omega
        rcases Int.lt_trichotomy y x with hh | rfl | hh
        · have hf : cmpL xs ys = 1 := by rw [hd'.out, if_pos hh]
          replace hf := Lib.hid hf
          go_wp2
          go_quiet (fail)
          go_wp2
          go_ret
          exact ⟨retInt hf.out.symm, _, by first | rfl | rw [World.drewN_drewN, World.drewN_drewN] | rw [World.drewN_drewN]⟩
        · have hf : cmpL xs ys = cmpL (xs.drop (k + 1)) (ys.drop (k + 1)) := by rw [hd'.out, if_neg (by omega), if_neg (by omega)]
          replace hf := Lib.hid hf
          go_wp2
          go_quiet (fail)
          go_wp2
          go_quiet (fail)
          go_wp2
          go_roundw
          case rel => exact ⟨k + 1, _, by omega, by omega, by go_num, rfl, hf⟩
          case measure => simp [intOf]; omega
        · have hf : cmpL xs ys = -1 := by rw [hd'.out, if_neg (by omega), if_pos hh]
          replace hf := Lib.hid hf
          go_wp2
          go_quiet (fail)
          go_wp2
          go_quiet (fail)
          go_wp2
          go_ret
          exact ⟨retInt hf.out.symm, _, by first | rfl | rw [World.drewN_drewN, World.drewN_drewN] | rw [World.drewN_drewN]⟩
      · have g1 : decide ((n' : Int) ≤ (k : Int)) = true := by simp; omega
        have hf : cmpL xs ys = 1 := hd.out.trans (cmp_long hx.out (by rw [hl'.out]; omega))
        replace hf := Lib.hid hf
        go_wp2
        go_quiet (fail)
        go_wp2
        go_ret
        exact ⟨retInt hf.out.symm, _, by first | rfl | rw [World.drewN_drewN, World.drewN_drewN] | rw [World.drewN_drewN]⟩
    · have hf : cmpL xs ys = if k < n' then -1 else 0 := by rw [hd.out, cmp_short (by rw [hl.out]; omega), hl'.out]
      obtain rfl : k = n := by omega
      by_cases hlt' : k < n'
      · rw [if_pos hlt'] at hf
        replace hf := Lib.hid hf
        go_wp2
        go_ret
        exact ⟨retInt hf.out.symm, _, by first | rfl | rw [World.drewN_drewN, World.drewN_drewN] | rw [World.drewN_drewN]⟩
      · rw [if_neg hlt'] at hf
        replace hf := Lib.hid hf
        go_wp2
        go_ret
        exact ⟨retInt hf.out.symm, _, by first | rfl | rw [World.drewN_drewN, World.drewN_drewN] | rw [World.drewN_drewN]⟩

set_option maxHeartbeats 400000 in
theorem same_any (A A' : Option Addr) (n c n' c' : Nat) (xs ys : List Int) (w : World) (h : RI w A n xs) (hn : n ≤ 1099511627776) (h' : RI w A' n' ys) (hn' : n' ≤ 1099511627776) :
    Calls Tryd.prog 19 #[.slice A n c, .slice A' n' c'] w fun e w' => e = .returned (.bool (decide (xs = ys))) ∧ ∃ q, w' = w.drewN q := by
  have hl := h.len
  have hl' := h'.len
  by_cases hq : n = n'
  · subst hq
    clear hl hl'
    go_enter Tryd.func19, Tryd.ntmps19
    go_wp2_with fail
    refine (cmp2_any A A' n c n c' xs ys _ h hn h' hn').mono ?_
    rintro e w' ⟨rfl, q, rfl⟩
    have hz := Lib.hid (cmp_zero xs ys)
    generalize cmpL xs ys = z at *
    go_wp2
    go_ret
    exact ⟨retBool (by rw [Bool.eq_iff_iff]; simp [hz.out]), q, rfl⟩
  · have hne : decide (xs = ys) = false := decide_eq_false (fun e => hq (by rw [← hl, ← hl', e]))
    replace hne := Lib.hid hne
    have hq' : ((n : Int) == (n' : Int)) = false := by simp; omega
    clear hl hl' hq
    go_enter Tryd.func19, Tryd.ntmps19
    go_wp2
    go_ret
    exact ⟨retBool hne.out.symm, 0, rfl⟩
end Go.Proofs.YticekkjambkifaaDoor
