/- The law CliquecountEdge: its plain law. -/
import Derived.Test.YtknlmgcbdcepnaaDoorLwcD
import Derived.Test.YtknlmgcbdcepnaaDoorGrfD
import Derived.Test.YtknlmgcbdcepnaaDoorGrfE
set_option linter.unusedVariables false
set_option linter.unusedSimpArgs false
namespace Go.Proofs.YtknlmgcbdcepnaaDoor
open Go.RowKit CoBit CoCli

theorem fndE_neg {es : List (Int × Int)} {e : Int × Int} (h : ¬ 0 ≤ fndE es e) : e ∉ es := fun hm => h (fndE_mem hm)
theorem ad_with {n : Nat} {es : List (Int × Int)} (hc : chkG n es = 0) (hs : Srt n es) (hn : n ≤ 64) {u v : Nat} (hu : u < n) (hv : v < n) (hne : u ≠ v) (x y : Nat) :
    ad (rowsL n (withL es (edgeP u v))) x y = (ad (rowsL n es) x y || (decide (x = u ∧ y = v) || decide (x = v ∧ y = u))) := by
  have hb : 0 ≤ (edgeP (u : Int) v).1 ∧ (edgeP (u : Int) v).1 < (edgeP (u : Int) v).2 ∧ (edgeP (u : Int) v).2 < n := by unfold edgeP; simp only; omega
  have hc' : chkG n (withL es (edgeP u v)) = 0 := chk_of_srt (srt_with hs hb.1 hb.2.1 hb.2.2) (by omega) (by omega)
  refine bool_iff ?_
  rw [ad_iff hc', Bool.or_eq_true, Bool.or_eq_true, ad_iff hc, mem_with, mem_with, decide_eq_true_iff, decide_eq_true_iff]
  have key : ∀ a b : Nat, ((a : Int), (b : Int)) = edgeP (u : Int) v ↔ ((a = u ∧ b = v ∧ u < v) ∨ (a = v ∧ b = u ∧ v < u)) := by
    intro a b
    unfold edgeP
    rw [Prod.mk.injEq]
    omega
  rw [key, key]
  constructor
  · rintro ((h | h) | (h | h))
    · right; omega
    · exact .inl (.inl h)
    · right; omega
    · exact .inl (.inr h)
  · rintro ((h | h) | h)
    · exact .inl (.inr h)
    · exact .inr (.inr h)
    · rcases Nat.lt_or_ge u v with hl | hl
      · rcases h with h | h
        · exact .inl (.inl (.inl ⟨h.1, h.2, hl⟩))
        · exact .inr (.inl (.inl ⟨h.2, h.1, hl⟩))
      · rcases h with h | h
        · exact .inr (.inl (.inr ⟨h.2, h.1, by omega⟩))
        · exact .inl (.inl (.inr ⟨h.1, h.2, by omega⟩))
theorem srt_ind {n : Int} {es : List (Int × Int)} (h : Srt n es) (l : List Int) : Srt n (indL es l) := ⟨fun x hx => h.1 x (List.mem_filter.1 hx).1, h.2.filter _⟩
/-- The common neighbours as a set. -/
theorem com_set {n : Nat} {es : List (Int × Int)} (hc : chkG n es = 0) (hn : n ≤ 64) {u v : Nat} (hne : u ≠ v) :
    comL n es u v = nts ((List.range n).filter fun x => ad (rowsL n es) u x && ad (rowsL n es) v x) := by
  unfold comL
  rw [if_neg (by omega)]
  have h1 : ∀ x : Nat, nbG n es x = nts ((List.range n).filter (ad (rowsL n es) x)) := fun x => by rw [← bl_row hc hn x, row_nb hc hn x]
  rw [h1, h1]
  have hsr : ∀ x : Nat, ((List.range n).filter (ad (rowsL n es) x)).Pairwise (· < ·) := fun x => List.pairwise_lt_range.filter _
  rw [meet_sorted (nts_sorted (hsr u))]
  unfold nts
  rw [List.filter_map, List.filter_filter]
  congr 1
  refine List.filter_congr fun x hx => ?_
  have : decide (((x : Nat) : Int) ∈ ((List.range n).filter (ad (rowsL n es) v)).map fun i : Nat => (i : Int)) = ad (rowsL n es) v x := by
    rw [Bool.eq_iff_iff, decide_eq_true_iff]
    have := mem_nts' (l := (List.range n).filter (ad (rowsL n es) v)) (i := x)
    unfold nts at this
    rw [this, List.mem_filter]
    exact ⟨fun h => h.2, fun h => ⟨hx, h⟩⟩
  simp only [Function.comp]
  rw [this, Bool.and_comm]
/-- What the law compares. -/
structure EdgF (n u v t : Nat) (es : List (Int × Int)) (X W : Nat) : Prop where
  z : chkG n es = 0
  zh : chkG n (withL es (edgeP u v)) = 0
  zi : chkG n (indL es (comL n es u v)) = 0
  a : (cntL n es (t + 3))[t + 2]? = some (X : Int)
  b : (cntL n (withL es (edgeP u v)) (t + 3))[t + 2]? = some ((X + W : Nat) : Int)
  c : t ≠ 0 → (cntL n (indL es (comL n es u v)) (t + 3))[t]? = some (W : Int)
  d : t = 0 → (comL n es u v).length = W
  bd : X ≤ 281474976710656 ∧ X + W ≤ 281474976710656
theorem cntL_at {n : Nat} {es : List (Int × Int)} {k j : Nat} (h : j < k) : (cntL n es k)[j]? = some ((cl (ad (rowsL n es)) (j + 1) (List.range n) : Nat) : Int) := by simp [cntL, h]
theorem cl_bdn {n : Nat} (a : Nat → Nat → Bool) (hn : n ≤ 64) {k : Nat} (hk : k ≤ 6) : cl a k (List.range n) ≤ 281474976710656 := by rw [← bl_all hn]; exact cl_bd a k hk _
theorem edgF {n u v t : Nat} {es : List (Int × Int)} (hs : Srt n es) (hn : n ≤ 8) (ht : t ≤ 3) (he : errA n es u v = 0) : ∃ X W, EdgF n u v t es X W := by
  have hz : chkG n es = 0 := chk_of_srt hs (by omega) (by omega)
  unfold errA at he
  by_cases h1 : endsB n u v = false
  · rw [if_pos h1] at he; omega
  rw [if_neg h1] at he
  by_cases h2 : 0 ≤ rfnd n es u v
  · rw [if_pos h2] at he; omega
  have h3 : endsB n u v = true := by simpa using h1
  unfold endsB at h3
  rw [decide_eq_true_iff] at h3
  obtain ⟨_, _, hu, hv, hne⟩ := h3
  have hu : u < n := by omega
  have hv : v < n := by omega
  have hne : u ≠ v := by omega
  rw [rfnd_ok hz] at h2
  have hnot := fndE_neg h2
  have huv : ad (rowsL n es) u v = false := by
    rw [Bool.eq_false_iff]
    intro hh
    rw [ad_iff hz, ← mem_edgeP hs] at hh
    exact hnot hh
  have hb : 0 ≤ (edgeP (u : Int) v).1 ∧ (edgeP (u : Int) v).1 < (edgeP (u : Int) v).2 ∧ (edgeP (u : Int) v).2 < n := by unfold edgeP; simp only; omega
  have hzh : chkG n (withL es (edgeP u v)) = 0 := chk_of_srt (srt_with hs hb.1 hb.2.1 hb.2.2) (by omega) (by omega)
  have hzi : chkG n (indL es (comL n es u v)) = 0 := chk_of_srt (srt_ind hs _) (by omega) (by omega)
  have hw := ad_with hz hs (show n ≤ 64 by omega) hu hv hne
  have hcl := cl_edge (t + 1) (fun x y => ad_symm hz x y) (fun x => ad_irr hz x) List.nodup_range (List.mem_range.2 hu) (List.mem_range.2 hv) hne huv hw
  have hcs := com_set hz (show n ≤ 64 by omega) hne
  have b1 := cl_bdn (ad (rowsL n es)) (show n ≤ 64 by omega) (show t + 1 + 2 ≤ 6 by omega)
  have b2 := cl_bdn (ad (rowsL n (withL es (edgeP u v)))) (show n ≤ 64 by omega) (show t + 1 + 2 ≤ 6 by omega)
  refine ⟨cl (ad (rowsL n es)) (t + 1 + 2) (List.range n), cl (ad (rowsL n es)) (t + 1) ((List.range n).filter fun x => ad (rowsL n es) u x && ad (rowsL n es) v x), hz, hzh, hzi, cntL_at (by omega), ?_, fun ht0 => ?_, fun ht0 => ?_, b1, by omega⟩
  · rw [cntL_at (by omega), ← hcl]
  · rw [cntL_at (by omega)]
    obtain ⟨k, rfl⟩ : ∃ k, t = k + 1 := ⟨t - 1, by omega⟩
    have hin : ∀ x y : Nat, ad (rowsL n (indL es (comL n es u v))) x y = true ↔ (ad (rowsL n es) x y = true ∧ (ad (rowsL n es) u x && ad (rowsL n es) v x) = true ∧ (ad (rowsL n es) u y && ad (rowsL n es) v y) = true) := by
      intro x y
      rw [ad_iff hzi]
      have hmem : ∀ a b : Nat, ((a : Int), (b : Int)) ∈ indL es (comL n es u v) ↔ (((a : Int), (b : Int)) ∈ es ∧ (ad (rowsL n es) u a && ad (rowsL n es) v a) = true ∧ (ad (rowsL n es) u b && ad (rowsL n es) v b) = true) := by
        intro a b
        unfold indL
        rw [List.mem_filter, decide_eq_true_iff, hcs, mem_nts', mem_nts', List.mem_filter, List.mem_filter, List.mem_range, List.mem_range]
        constructor
        · rintro ⟨h, h1, h2⟩; exact ⟨h, h1.2, h2.2⟩
        · rintro ⟨h, h1, h2⟩
          have := hs.1 _ h
          simp only at this
          exact ⟨h, ⟨by omega, h1⟩, ⟨by omega, h2⟩⟩
      rw [hmem, hmem, ad_iff hz]
      constructor
      · rintro (⟨h, h1, h2⟩ | ⟨h, h1, h2⟩)
        · exact ⟨.inl h, h1, h2⟩
        · exact ⟨.inr h, h2, h1⟩
      · rintro ⟨h | h, h1, h2⟩
        · exact .inl ⟨h, h1, h2⟩
        · exact .inr ⟨h, h2, h1⟩
    congr 2
    rw [show k + 1 + 1 = k + 2 by omega, cl_alone k (fun x => ad (rowsL n es) u x && ad (rowsL n es) v x) (List.range n) (fun x _ y _ hxy => ((hin x y).1 hxy).2)]
    refine cl_congr _ _ fun x hx y hy => bool_iff ?_
    rw [List.mem_filter] at hx hy
    rw [hin]
    exact ⟨fun h => h.1, fun h => ⟨h, hx.2, hy.2⟩⟩
  · subst ht0
    rw [hcs, nts_length, cl_one]
theorem cnts_len {n : Nat} {es : List (Int × Int)} {k : Nat} : (cntL n es k).length = k := by simp [cntL]
end Go.Proofs.YtknlmgcbdcepnaaDoor
