/- Events: the reference's Check; the checks of lists. -/
import Derived.Test.YtbaebeackbciaaaEveB
set_option linter.unusedVariables false
set_option linter.unusedSimpArgs false
namespace Go.Proofs.Ytbaebeackbciaaa
open Go.RowKit CoEv

theorem ends_ways (k u v : Int) (t ww l s : Int) :
    (decide (0 ≤ u ∧ u ≤ 63) = false ∧ endsB ⟨k, t, u, v, ww, l, s⟩ = false) ∨
    ((decide (0 ≤ u ∧ u ≤ 63) = true ∧ (k == 3) = true ∧ (v != 0) = true) ∧ endsB ⟨k, t, u, v, ww, l, s⟩ = false) ∨
    ((decide (0 ≤ u ∧ u ≤ 63) = true ∧ (k == 3) = true ∧ (v != 0) = false ∧ (k != 3) = false) ∧ endsB ⟨k, t, u, v, ww, l, s⟩ = true) ∨
    ((decide (0 ≤ u ∧ u ≤ 63) = true ∧ (k == 3) = false ∧ (k != 3) = true ∧ decide (0 ≤ v ∧ v ≤ 63) = false) ∧ endsB ⟨k, t, u, v, ww, l, s⟩ = false) ∨
    ((decide (0 ≤ u ∧ u ≤ 63) = true ∧ (k == 3) = false ∧ (k != 3) = true ∧ decide (0 ≤ v ∧ v ≤ 63) = true ∧ (u == v) = true) ∧ endsB ⟨k, t, u, v, ww, l, s⟩ = false) ∨
    ((decide (0 ≤ u ∧ u ≤ 63) = true ∧ (k == 3) = false ∧ (k != 3) = true ∧ decide (0 ≤ v ∧ v ≤ 63) = true ∧ (u == v) = false) ∧ endsB ⟨k, t, u, v, ww, l, s⟩ = true) := by
  unfold endsB
  simp only [decide_eq_true_eq, decide_eq_false_iff_not, bne_iff_ne, bne_eq_false_iff_eq, beq_iff_eq, beq_eq_false_iff_ne]
  by_cases hu : 0 ≤ u ∧ u ≤ 63
  · have hu' : 0 ≤ u ∧ u < 64 := by omega
    by_cases hk : k = 3
    · rw [if_pos hk]
      by_cases hv : v = 0
      · exact .inr (.inr (.inl ⟨⟨hu, hk, hv, hk⟩, decide_eq_true ⟨hu', hv⟩⟩))
      · exact .inr (.inl ⟨⟨hu, hk, hv⟩, decide_eq_false fun h => hv h.2⟩)
    · rw [if_neg hk]
      by_cases hv : 0 ≤ v ∧ v ≤ 63
      · by_cases he : u = v
        · exact .inr (.inr (.inr (.inr (.inl ⟨⟨hu, hk, hk, hv, he⟩, decide_eq_false fun h => h.2.2 he⟩))))
        · exact .inr (.inr (.inr (.inr (.inr ⟨⟨hu, hk, hk, hv, he⟩, decide_eq_true ⟨hu', by omega, he⟩⟩))))
      · exact .inr (.inr (.inr (.inl ⟨⟨hu, hk, hk, hv⟩, decide_eq_false fun h => hv ⟨h.2.1.1, by omega⟩⟩)))
  · refine .inl ⟨hu, ?_⟩
    split
    · exact decide_eq_false fun h => hu ⟨h.1.1, by omega⟩
    · exact decide_eq_false fun h => hu ⟨h.1.1, by omega⟩
theorem chk_tail (k t u v ww l s : Int) (h1 : decide (1 ≤ k ∧ k ≤ 3) = true) (h2 : decide (0 ≤ t ∧ t ≤ 1048576) = true) (h3 : endsB ⟨k, t, u, v, ww, l, s⟩ = true) :
    ((k == 1) = true ∧ chk ⟨k, t, u, v, ww, l, s⟩ = if rightB ww l s then 0 else 1) ∨ ((k == 1) = false ∧ (ww != 0) = true ∧ chk ⟨k, t, u, v, ww, l, s⟩ = 1) ∨
    ((k == 1) = false ∧ (ww != 0) = false ∧ (l != 0) = true ∧ chk ⟨k, t, u, v, ww, l, s⟩ = 1) ∨ ((k == 1) = false ∧ (ww != 0) = false ∧ (l != 0) = false ∧ (s != 0) = true ∧ chk ⟨k, t, u, v, ww, l, s⟩ = 1) ∨
    ((k == 1) = false ∧ (ww != 0) = false ∧ (l != 0) = false ∧ (s != 0) = false ∧ chk ⟨k, t, u, v, ww, l, s⟩ = 0) := by
  have h1' := of_decide_eq_true h1
  have h2' := of_decide_eq_true h2
  unfold chk
  simp only [bne_iff_ne, bne_eq_false_iff_eq, beq_iff_eq, beq_eq_false_iff_ne]
  rw [if_neg (show ¬ (k < 1 ∨ k > 3) by omega), if_neg (show ¬ (t < 0 ∨ t > 1048576) by omega), h3, if_neg (show ¬ (true = false) by decide)]
  by_cases hk : k = 1
  · left; exact ⟨hk, by rw [if_pos hk]⟩
  · rw [if_neg hk]
    by_cases h6 : ww = 0
    · by_cases h7 : l = 0
      · by_cases h8 : s = 0
        · right; right; right; right; exact ⟨hk, h6, h7, h8, by rw [if_neg (by omega)]⟩
        · right; right; right; left; exact ⟨hk, h6, h7, h8, by rw [if_pos (by omega)]⟩
      · right; right; left; exact ⟨hk, h6, h7, by rw [if_pos (by omega)]⟩
    · right; left; exact ⟨hk, h6, by rw [if_pos (by omega)]⟩
theorem chk_head (k t u v ww l s : Int) : (decide (1 ≤ k ∧ k ≤ 3) = false ∧ chk ⟨k, t, u, v, ww, l, s⟩ = 8) ∨ (decide (1 ≤ k ∧ k ≤ 3) = true ∧ decide (0 ≤ t ∧ t ≤ 1048576) = false ∧ chk ⟨k, t, u, v, ww, l, s⟩ = 9) ∨
    (decide (1 ≤ k ∧ k ≤ 3) = true ∧ decide (0 ≤ t ∧ t ≤ 1048576) = true ∧ (endsB ⟨k, t, u, v, ww, l, s⟩ = false → chk ⟨k, t, u, v, ww, l, s⟩ = 6)) := by
  unfold chk
  simp only [decide_eq_true_eq, decide_eq_false_iff_not]
  by_cases h1 : 1 ≤ k ∧ k ≤ 3
  · rw [if_neg (show ¬ (k < 1 ∨ k > 3) by omega)]
    by_cases h2 : 0 ≤ t ∧ t ≤ 1048576
    · rw [if_neg (show ¬ (t < 0 ∨ t > 1048576) by omega)]
      exact .inr (.inr ⟨h1, h2, fun h => by rw [if_pos h]⟩)
    · rw [if_pos (show (t < 0 ∨ t > 1048576) by omega)]
      exact .inr (.inl ⟨h1, h2, rfl⟩)
  · rw [if_pos (show (k < 1 ∨ k > 3) by omega)]
    exact .inl ⟨h1, rfl⟩

set_option maxHeartbeats 8000000 in
theorem rcheck4_any (e : Ev) (w : World) : Calls Try.prog 51 #[evV e] w fun r w' => r = .returned (.int .i64 (chk e)) ∧ Below w.heap.size w w' := by
  obtain ⟨k, t, u, v, ww, l, s⟩ := e
  have hs : evV ⟨k, t, u, v, ww, l, s⟩ = .agg #[.int .i64 k, .int .i64 t, .int .i64 u, .int .i64 v, .int .i64 ww, .int .i64 l, .int .i64 s] := rfl
  have kk := fun w => efrom_any k 1 3 w
  have kt := fun w => efrom_any t 0 1048576 w
  have ku := fun w => efrom_any u 0 63 w
  have kv := fun w => efrom_any v 0 63 w
  have kr := fun w => eattr_any ww l s w
  have h1 := chk_head k t u v ww l s
  have h2 := ends_ways k u v t ww l s
  have h3 := chk_tail k t u v ww l s
  rw [hs]
  generalize decide (1 ≤ k ∧ k ≤ 3) = X at *
  generalize decide (0 ≤ t ∧ t ≤ 1048576) = T at *
  generalize decide (0 ≤ u ∧ u ≤ 63) = U at *
  generalize decide (0 ≤ v ∧ v ≤ 63) = V at *
  generalize endsB ⟨k, t, u, v, ww, l, s⟩ = E at *
  generalize rightB ww l s = R at *
  generalize chk ⟨k, t, u, v, ww, l, s⟩ = C at *
  clear hs
  have G : Blk (w.alloc (.cells #[.int .i64 k, .int .i64 t, .int .i64 u, .int .i64 v, .int .i64 ww, .int .i64 l, .int .i64 s] 55)) w.heap.size 55 #[.int .i64 k, .int .i64 t, .int .i64 u, .int .i64 v, .int .i64 ww, .int .i64 l, .int .i64 s] := Blk.new _ _ _
  rcases h1 with ⟨rfl, rfl⟩ | ⟨rfl, rfl, rfl⟩ | ⟨rfl, rfl, hE⟩
  · replace kk := Lib.hid kk
    clear kt ku kv kr h2 h3
    go_enter Try.func51, Try.ntmps51
    go_wp2_with fail
    (with_reducible refine (kk.out _).mono ?_); rintro e w1 ⟨rfl, rfl⟩
    go_wp2_with fail
    go_ret
    exact ⟨rfl, by go_grown⟩
  · replace kk := Lib.hid kk
    replace kt := Lib.hid kt
    clear ku kv kr h2 h3
    go_enter Try.func51, Try.ntmps51
    go_wp2_with fail
    (with_reducible refine (kk.out _).mono ?_); rintro e w1 ⟨rfl, rfl⟩
    go_wp2_with fail
    (with_reducible refine (kt.out _).mono ?_); rintro e w1 ⟨rfl, rfl⟩
    go_wp2_with fail
    go_ret
    exact ⟨rfl, by go_grown⟩
  · replace kk := Lib.hid kk
    replace kt := Lib.hid kt
    replace h3 := fun h => h3 rfl rfl h
    rcases h2 with ⟨rfl, rfl⟩ | ⟨⟨rfl, p2, p3⟩, rfl⟩ | ⟨⟨rfl, p2, p3, p4⟩, rfl⟩ | ⟨⟨rfl, p2, p3, rfl⟩, rfl⟩ | ⟨⟨rfl, p2, p3, rfl, p5⟩, rfl⟩ | ⟨⟨rfl, p2, p3, rfl, p5⟩, rfl⟩
    all_goals
      replace ku := Lib.hid ku
      replace kv := Lib.hid kv
      replace kr := Lib.hid kr
    all_goals first | (obtain rfl := hE rfl) | (rcases h3 rfl with ⟨p6, rfl⟩ | ⟨p6, p7, rfl⟩ | ⟨p6, p7, p8, rfl⟩ | ⟨p6, p7, p8, p9, rfl⟩ | ⟨p6, p7, p8, p9, rfl⟩)
    all_goals
      clear h3 hE
      go_enter Try.func51, Try.ntmps51
      go_wp2_with fail
      (with_reducible refine (kk.out _).mono ?_); rintro e w1 ⟨rfl, rfl⟩
      go_wp2_with fail
      (with_reducible refine (kt.out _).mono ?_); rintro e w1 ⟨rfl, rfl⟩
      go_wp2_with fail
      (with_reducible refine (ku.out _).mono ?_); rintro e w1 ⟨rfl, rfl⟩
      go_wp2_with fail
      try ((with_reducible refine (kv.out _).mono ?_); rintro e w1 ⟨rfl, rfl⟩; go_wp2_with fail)
      try ((with_reducible refine (kr.out _).mono ?_); rintro e w1 ⟨rfl, hb⟩; go_wp2_with fail)
      all_goals
        go_ret
        first | exact ⟨rfl, ((Below.refl _ _).alloc (Nat.le_refl _) _).trans (hb.mono (by simp))⟩ | exact ⟨rfl, by go_grown⟩
end Go.Proofs.Ytbaebeackbciaaa
