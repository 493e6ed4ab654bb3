/- The law PeelTakes: its plain law. -/
import Derived.Test.YtdibfecejgjfmaaGreatDoorPeeN
import Derived.Test.YtdibfecejgjfmaaGreatDoorRatK
import Derived.Lib.QuietBelow
set_option linter.unusedVariables false
set_option linter.unusedSimpArgs false
set_option linter.unusedSectionVars false
namespace Go.Proofs.YtdibfecejgjfmaaGreatDoor
open Go.RowKit CoBit CoRat Rt

theorem mem_bset' {x : Nat} (hx : x < 18446744073709551616) {i : Nat} : (i : Int) ∈ bset x ↔ x.testBit i = true := by
  rw [mem_bset]
  refine ⟨fun h => h.2, fun h => ⟨?_, h⟩⟩
  rcases Nat.lt_or_ge i 64 with h1 | h1
  · exact h1
  · have : x.testBit i = false := Nat.testBit_lt_two_pow (Nat.lt_of_lt_of_le hx (by rw [show (18446744073709551616 : Nat) = 2 ^ 64 by decide +kernel]; exact Nat.pow_le_pow_right (by omega) h1))
    rw [this] at h; cases h
theorem bset_nat {x : Nat} {v : Int} (h : v ∈ bset x) : ∃ i : Nat, v = (i : Int) := by
  obtain ⟨i, _, rfl⟩ := mem_nts.1 h
  exact ⟨i, rfl⟩
theorem bset_zero : bset 0 = [] := by decide +kernel
theorem bset_ne {x : Nat} (hx : x < 18446744073709551616) (h : x ≠ 0) : bset x ≠ [] := by
  intro he
  refine h ?_
  refine Nat.eq_of_testBit_eq fun i => ?_
  rw [Nat.zero_testBit]
  cases hb : x.testBit i with
  | false => rfl
  | true => have := (mem_bset' hx).2 hb; rw [he] at this; cases this
section
variable {n : Nat} {es : List (Int × Int)} {a d : Nat}
theorem pop_bset (x : Nat) : pop x = (bset x).length := by rw [pop_bl]; unfold bset; rw [nts_length]
theorem fewP_iff (hc : chkG n es = 0) (hn : n ≤ 64) (x v : Nat) : fewP n es x a d v = true ↔ dg (nbG n es) (bset x) v * (bset x).length * d ≤ 2 * (d + a) * insE es (bset x) := by
  unfold fewP
  rw [decide_eq_true_iff, pop_row hc hn, pop_bset]
/-- In every round some node is taken. -/
theorem few_some (hc : chkG n es = 0) (hn : n ≤ 64) {x : Nat} (hx : x < 18446744073709551616) (h0 : x ≠ 0) : fewM n es x a d ≠ 0 := by
  have hne := bset_ne hx h0
  have hlen : 0 < (bset x).length := List.length_pos_iff.2 hne
  have hh := hand hc (sorted_nodup (bset_sorted x))
  obtain ⟨v, hv, hle⟩ := sum_part (l := bset x) (f := fun v => dg (nbG n es) (bset x) v) (a := (bset x).length) (b := 2 * insE es (bset x)) (by rw [hh]; exact Nat.le_of_eq (Nat.mul_comm _ _)) hlen
  obtain ⟨i, rfl⟩ := bset_nat hv
  have hb := mem_bset.1 hv
  intro he
  have : (fewM n es x a d).testBit i = true := by
    rw [fewM_bit, fewP_iff hc hn]
    refine ⟨hb, ?_⟩
    refine Nat.le_trans (Nat.mul_le_mul_right d hle) ?_
    have e1 : 2 * insE es (bset x) * d = 2 * d * insE es (bset x) := by grind
    rw [e1]
    exact Nat.mul_le_mul_right _ (Nat.mul_le_mul_left 2 (by omega))
  rw [he, Nat.zero_testBit] at this
  cases this
/-- The rounds and what is left are all nodes. -/
theorem rnd_perm (hn : n ≤ 64) (k : Nat) : ((rndK n es a d k).2.2.flatten ++ bset (rndK n es a d k).1).Perm (rng n) := by
  induction k with
  | zero =>
    show ([] ++ bset (2 ^ n - 1)).Perm (rng n)
    rw [List.nil_append]
    refine (List.perm_ext_iff_of_nodup (sorted_nodup (bset_sorted _)) ?_).2 fun x => ?_
    · unfold rng
      unfold List.Nodup
      rw [List.pairwise_map]
      exact (show List.Pairwise (· ≠ ·) (List.range n) from List.nodup_range).imp fun h e => h (by omega)
    · unfold rng
      constructor
      · intro h
        obtain ⟨i, rfl⟩ := bset_nat h
        have := (mem_bset.1 h).2
        rw [all_bit] at this
        rw [List.mem_map]
        exact ⟨i, List.mem_range.2 (by simpa using this), rfl⟩
      · intro h
        rw [List.mem_map] at h
        obtain ⟨i, hi, rfl⟩ := h
        rw [List.mem_range] at hi
        exact mem_bset.2 ⟨by omega, by rw [all_bit]; simpa using hi⟩
  | succ k ih =>
    by_cases h : (rndK n es a d k).1 = 0
    · rw [rndK_stop h 1]; exact ih
    · rw [rndK_next h]
      simp only [List.flatten_append, List.flatten_cons, List.flatten_nil, List.append_nil, List.append_assoc]
      refine List.Perm.trans (List.Perm.append_left _ ?_) ih
      have hL := rndK_lt (es := es) (a := a) (d := d) hn k
      have hM := fewM_lt n es (rndK n es a d k).1 a d
      have hN := mns_lt (m := fewM n es (rndK n es a d k).1 a d) hL
      refine (List.perm_ext_iff_of_nodup ?_ (sorted_nodup (bset_sorted _))).2 fun x => ?_
      · rw [List.nodup_append]
        refine ⟨sorted_nodup (bset_sorted _), sorted_nodup (bset_sorted _), ?_⟩
        intro x hx y hy he
        subst he
        obtain ⟨i, rfl⟩ := bset_nat hx
        have h1 := (mem_bset' hM).1 hx
        have h2 := (mem_bset' hN).1 hy
        rw [mns_bit hL hM, h1] at h2
        simp at h2
      · rw [List.mem_append]
        constructor
        · rintro (hx | hx)
          · obtain ⟨i, rfl⟩ := bset_nat hx
            have h1 := (mem_bset' hM).1 hx
            exact (mem_bset' hL).2 ((fewM_bit _ _ _ _ _ _).1 h1).1.2
          · obtain ⟨i, rfl⟩ := bset_nat hx
            have h1 := (mem_bset' hN).1 hx
            rw [mns_bit hL hM, Bool.and_eq_true] at h1
            exact (mem_bset' hL).2 h1.1
        · intro hx
          obtain ⟨i, rfl⟩ := bset_nat hx
          have h1 := (mem_bset' hL).1 hx
          cases hb : (fewM n es (rndK n es a d k).1 a d).testBit i with
          | true => exact .inl ((mem_bset' hM).2 hb)
          | false => exact .inr ((mem_bset' hN).2 (by rw [mns_bit hL hM, h1, hb]; rfl))
theorem rnd_ne (hc : chkG n es = 0) (hn : n ≤ 64) (k : Nat) : ∀ r ∈ (rndK n es a d k).2.2, r ≠ [] := by
  induction k with
  | zero => intro r hr; cases hr
  | succ k ih =>
    by_cases h : (rndK n es a d k).1 = 0
    · rw [rndK_stop h 1]; exact ih
    · rw [rndK_next h]
      intro r hr
      simp only [List.mem_append, List.mem_singleton] at hr
      rcases hr with hr | hr
      · exact ih r hr
      · subst hr
        exact bset_ne (fewM_lt _ _ _ _ _) (few_some hc hn (rndK_lt hn k) h)
theorem rnd_fall (hc : chkG n es = 0) (hn : n ≤ 64) (k : Nat) : (rndK n es a d k).1 = 0 ∨ k ≤ (rndK n es a d k).2.2.flatten.length := by
  induction k with
  | zero => exact .inr (Nat.zero_le _)
  | succ k ih =>
    by_cases h : (rndK n es a d k).1 = 0
    · rw [rndK_stop h 1]; exact .inl h
    · rw [rndK_next h]
      refine .inr ?_
      simp only [List.flatten_append, List.length_append, List.flatten_cons, List.flatten_nil, List.append_nil]
      have h1 := bset_ne (fewM_lt n es (rndK n es a d k).1 a d) (few_some hc hn (rndK_lt hn k) h)
      have h2 := List.length_pos_iff.2 h1
      rcases ih with ih | ih
      · exact absurd ih h
      · omega
theorem rnd_end (hc : chkG n es = 0) (hn : n ≤ 64) : (rndK n es a d n).1 = 0 := by
  rcases rnd_fall (a := a) (d := d) hc hn n with h | h
  · exact h
  · have hp := (rnd_perm (es := es) (a := a) (d := d) hn n).length_eq
    rw [List.length_append] at hp
    have hr : (rng n).length = n := by unfold rng; simp
    rw [hr] at hp
    have h0 : (bset (rndK n es a d n).1).length = 0 := by omega
    by_cases he : (rndK n es a d n).1 = 0
    · exact he
    · exact absurd (List.eq_nil_of_length_eq_zero h0) (bset_ne (rndK_lt hn n) he)
theorem rnd_all (hc : chkG n es = 0) (hn : n ≤ 64) : (rndK n es a d n).2.2.flatten.Perm (rng n) := by
  have := rnd_perm (es := es) (a := a) (d := d) hn n
  rw [rnd_end hc hn, bset_zero, List.append_nil] at this
  exact this
theorem rnd_first (h0 : 0 < n) (k : Nat) : (rndK n es a d (k + 1)).2.2[0]? = some (bset (fewM n es (2 ^ n - 1) a d)) := by
  induction k with
  | zero =>
    have h : (rndK n es a d 0).1 ≠ 0 := by
      show 2 ^ n - 1 ≠ 0
      have : 2 ^ 1 ≤ 2 ^ n := Nat.pow_le_pow_right (by omega) h0
      omega
    rw [rndK_next h]; rfl
  | succ k ih =>
    by_cases h : (rndK n es a d (k + 1)).1 = 0
    · rw [rndK_stop h 1]; exact ih
    · rw [rndK_next h]
      simp only
      obtain ⟨hl, he⟩ := List.getElem?_eq_some_iff.1 ih
      rw [List.getElem?_append_left hl]; exact ih
end
/-- A greater fraction takes no fewer. -/
theorem few_mono {n : Nat} {es : List (Int × Int)} {a d a' d' : Nat} (h : a * d' ≤ a' * d) (hd : 0 < d) (x : Nat) (v : Int) (hv : v ∈ bset (fewM n es x a d)) : v ∈ bset (fewM n es x a' d') := by
  obtain ⟨i, rfl⟩ := bset_nat hv
  rw [mem_bset' (fewM_lt _ _ _ _ _), fewM_bit] at hv ⊢
  refine ⟨hv.1, ?_⟩
  have h1 := hv.2
  unfold fewP at h1 ⊢
  rw [decide_eq_true_iff] at h1 ⊢
  generalize pop ((rowsL n es).getD i 0 &&& x) * pop x = T at *
  generalize insE es (bset x) = I at *
  refine Nat.le_of_mul_le_mul_left (c := d) ?_ hd
  have e1 : d * (T * d') = T * d * d' := by grind
  have e2 : d * (2 * (d' + a') * I) = 2 * (d * d' + a' * d) * I := by grind
  rw [e1, e2]
  refine Nat.le_trans (Nat.mul_le_mul_right d' h1) ?_
  have e3 : 2 * (d + a) * I * d' = 2 * (d * d' + a * d') * I := by grind
  rw [e3]
  exact Nat.mul_le_mul_right I (Nat.mul_le_mul_left 2 (by omega))
/-- The fractions of the laws. -/
def frcOk (i j : Nat) : Bool :=
  let xN := mkN (i : Int) (j : Int); let xD := mkD (i : Int) (j : Int)
  let yN := addN xN xD (mkN 1 3) (mkD 1 3); let yD := addD xN xD (mkN 1 3) (mkD 1 3)
  okF xN xD && decide (0 ≤ xN) && decide (xN ≤ 1048576) && decide (xD ≤ 1048576) && okF yN yD && decide (0 ≤ yN) && decide (yN ≤ 1048576) && decide (yD ≤ 1048576) && decide (xN * yD ≤ yN * xD) && decide (0 < xD)
theorem frc_all : ((List.range 6).all fun i => (List.range 6).all fun j => j == 0 || frcOk i j) = true := by decide +kernel
end Go.Proofs.YtdibfecejgjfmaaGreatDoor

namespace Go.Proofs.YtdibfecejgjfmaaGreatDoor
open Go.RowKit CoBit

set_option maxHeartbeats 1000000 in
theorem of_nil (c : Nat) (w : World) : Calls Tryz.prog 45 #[.slice none 0 c] w fun e w' => e = .returned (.slice none 0 0) ∧ w = w' := by
  go_enter Tryz.func45, Tryz.ntmps45
  go_wp2_with fail
  go_loop [3, 8] (fun v i => v = .slice none 0 0 ∧ i = .int .i64 0) (fun _ i => 0)
  case atStart => exact ⟨rfl, rfl⟩
  case round =>
    obtain ⟨rfl, rfl⟩ := hrel
    go_wp2_with fail
    go_ret
    exact ⟨rfl, rfl⟩
set_option maxHeartbeats 1000000 in
theorem range_nil (w : World) : Calls Tryz.prog 41 #[.int .i64 0] w fun e w' => e = .returned (.slice none 0 0) ∧ w = w' := by
  go_enter Tryz.func41, Tryz.ntmps41
  go_wp2_with fail
  go_loop [3, 4] (fun v i => v = .slice none 0 0 ∧ i = .int .i64 0) (fun _ i => 0)
  case atStart => exact ⟨rfl, rfl⟩
  case round =>
    obtain ⟨rfl, rfl⟩ := hrel
    go_wp2_with fail
    go_ret
    exact ⟨rfl, rfl⟩
end Go.Proofs.YtdibfecejgjfmaaGreatDoor
