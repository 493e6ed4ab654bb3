/- The law CliquecountBeside: its plain law. -/
import Derived.Test.YtknlmgcbdcepnaaDoorLwcB
import Derived.Test.YtknlmgcbdcepnaaDoorGrfF
set_option linter.unusedVariables false
set_option linter.unusedSimpArgs false
set_option linter.unusedSectionVars false
namespace Go.Proofs.YtknlmgcbdcepnaaDoor
open Go.RowKit CoBit CoCli

/-- The edges of two graphs beside each other. -/
def besL (N : Nat) (a b : List (Int × Int)) : List (Int × Int) := a ++ b.map fun e => (e.1 + (N : Int), e.2 + (N : Int))
theorem besL_ends {N M : Nat} {a b : List (Int × Int)} (ha : Srt N a) (hb : Srt M b) : ∀ e ∈ besL N a b, endsB ((N + M : Nat) : Int) e.1 e.2 = true := by
  intro e he
  unfold endsB
  rw [decide_eq_true_iff]
  unfold besL at he
  rw [List.mem_append, List.mem_map] at he
  rcases he with he | ⟨z, hz, rfl⟩
  · have := ha.1 e he; omega
  · have := hb.1 z hz
    simp only; omega
theorem edgeP_lt {a b : Int} (h : a < b) : edgeP a b = (a, b) := by
  unfold edgeP
  rw [Int.min_eq_left (by omega), Int.max_eq_right (by omega)]
theorem mem_bes {N M : Nat} {a b : List (Int × Int)} (ha : Srt N a) (hb : Srt M b) (x y : Int) : (x, y) ∈ putsL (besL N a b) ↔ (x, y) ∈ a ∨ (x - N, y - N) ∈ b := by
  rw [mem_puts]
  constructor
  · rintro ⟨e, he, h⟩
    unfold besL at he
    rw [List.mem_append, List.mem_map] at he
    rcases he with he | ⟨z, hz, rfl⟩
    · rw [edgeP_lt (ha.1 e he).2.1] at h
      exact .inl (h ▸ he)
    · have := hb.1 z hz
      simp only at h
      rw [edgeP_lt (by omega)] at h
      injection h with h1 h2
      right
      have e1 : (x - (N : Int), y - (N : Int)) = z := by rw [h1, h2]; refine Prod.ext ?_ ?_ <;> simp only <;> omega
      rw [e1]; exact hz
  · rintro (h | h)
    · have := ha.1 _ h
      exact ⟨(x, y), by unfold besL; rw [List.mem_append]; exact .inl h, by rw [edgeP_lt this.2.1]⟩
    · have := hb.1 _ h
      simp only at this
      refine ⟨(x, y), ?_, by rw [edgeP_lt (by simp only; omega)]⟩
      unfold besL
      rw [List.mem_append, List.mem_map]
      exact .inr ⟨_, h, by refine Prod.ext ?_ ?_ <;> simp only <;> omega⟩
section
variable {N M : Nat} {a b : List (Int × Int)} (ha : Srt N a) (hb : Srt M b) (hN : N + M ≤ 64)
include ha hb hN
theorem bes_srt : Srt ((N + M : Nat) : Int) (putsL (besL N a b)) := srt_puts (besL_ends ha hb)
theorem bes_chk : chkG ((N + M : Nat) : Int) (putsL (besL N a b)) = 0 := chk_of_srt (bes_srt ha hb hN) (by omega) (by omega)
theorem bes_ad (x y : Nat) : ad (rowsL (N + M) (putsL (besL N a b))) x y = true ↔ (ad (rowsL N a) x y = true ∨ (N ≤ x ∧ N ≤ y ∧ ad (rowsL M b) (x - N) (y - N) = true)) := by
  have ca := chk_of_srt ha (by omega) (by omega)
  have cb := chk_of_srt hb (by omega) (by omega)
  rw [ad_iff (bes_chk ha hb hN), mem_bes ha hb, mem_bes ha hb, ad_iff ca, ad_iff cb]
  constructor
  · rintro ((h | h) | (h | h))
    · exact .inl (.inl h)
    · have := hb.1 _ h
      simp only at this
      refine .inr ⟨by omega, by omega, .inl ?_⟩
      rw [show ((x - N : Nat) : Int) = (x : Int) - N by omega, show ((y - N : Nat) : Int) = (y : Int) - N by omega]
      exact h
    · exact .inl (.inr h)
    · have := hb.1 _ h
      simp only at this
      refine .inr ⟨by omega, by omega, .inr ?_⟩
      rw [show ((x - N : Nat) : Int) = (x : Int) - N by omega, show ((y - N : Nat) : Int) = (y : Int) - N by omega]
      exact h
  · rintro ((h | h) | ⟨h1, h2, h | h⟩)
    · exact .inl (.inl h)
    · exact .inr (.inl h)
    · rw [show ((x - N : Nat) : Int) = (x : Int) - N by omega, show ((y - N : Nat) : Int) = (y : Int) - N by omega] at h
      exact .inl (.inr h)
    · rw [show ((x - N : Nat) : Int) = (x : Int) - N by omega, show ((y - N : Nat) : Int) = (y : Int) - N by omega] at h
      exact .inr (.inr h)
theorem bes_ad1 {x y : Nat} (hx : x < N) : ad (rowsL (N + M) (putsL (besL N a b))) x y = ad (rowsL N a) x y :=
  bool_iff ⟨fun h => by
    rcases (bes_ad ha hb hN x y).1 h with h | h
    · exact h
    · omega, fun h => (bes_ad ha hb hN x y).2 (.inl h)⟩
theorem bes_ad2 {x y : Nat} : ad (rowsL (N + M) (putsL (besL N a b))) (x + N) (y + N) = ad (rowsL M b) x y :=
  bool_iff ⟨fun h => by
    rcases (bes_ad ha hb hN (x + N) (y + N)).1 h with h | ⟨_, _, h⟩
    · have := ad_lt (chk_of_srt ha (by omega) (by omega)) h; omega
    · rw [Nat.add_sub_cancel, Nat.add_sub_cancel] at h; exact h, fun h => (bes_ad ha hb hN _ _).2 (.inr ⟨by omega, by omega, by rw [Nat.add_sub_cancel, Nat.add_sub_cancel]; exact h⟩)⟩
theorem bes_ad3 {x y : Nat} (hy : y < N) : ad (rowsL (N + M) (putsL (besL N a b))) (x + N) y = false := by
  rw [Bool.eq_false_iff]
  intro h
  rcases (bes_ad ha hb hN (x + N) y).1 h with h | h
  · have := ad_lt (chk_of_srt ha (by omega) (by omega)) h; omega
  · omega
theorem range_split : List.range (N + M) = List.range N ++ (List.range M).map (· + N) := by
  rw [List.range_add]
  congr 1
  exact List.map_congr_left fun x _ => Nat.add_comm _ _
theorem bes_cl (k : Nat) : cl (ad (rowsL (N + M) (putsL (besL N a b)))) (k + 1) (List.range (N + M)) = cl (ad (rowsL N a)) (k + 1) (List.range N) + cl (ad (rowsL M b)) (k + 1) (List.range M) := by
  rw [range_split ha hb hN, cl_apart, cl_map]
  · congr 1
    · exact cl_congr _ _ fun x hx y _ => bes_ad1 ha hb hN (List.mem_range.1 hx)
    · exact cl_congr _ _ fun x _ y _ => bes_ad2 ha hb hN
  · intro x hx y hy
    rw [List.mem_map] at hy
    obtain ⟨z, _, rfl⟩ := hy
    rw [ad_symm (bes_chk ha hb hN)]
    exact bes_ad3 ha hb hN (List.mem_range.1 hx)
theorem bes_nod (k : Nat) : nodL (N + M) (putsL (besL N a b)) k = nodL N a k ++ nodL M b k := by
  unfold nodL
  rw [range_split ha hb hN, List.map_append, List.map_map]
  congr 1
  · refine List.map_congr_left fun v hv => ?_
    have hv' := List.mem_range.1 hv
    refine congrArg (fun n : Nat => (n : Int)) ?_
    rw [List.filter_append]
    have e1 : (List.range N).filter (ad (rowsL (N + M) (putsL (besL N a b))) v) = (List.range N).filter (ad (rowsL N a) v) := List.filter_congr fun x _ => bes_ad1 ha hb hN hv'
    have e2 : ((List.range M).map (· + N)).filter (ad (rowsL (N + M) (putsL (besL N a b))) v) = [] := List.filter_eq_nil_iff.2 fun x hx => by
      rw [List.mem_map] at hx
      obtain ⟨z, _, rfl⟩ := hx
      rw [ad_symm (bes_chk ha hb hN), bes_ad3 ha hb hN hv']; simp
    rw [e1, e2, List.append_nil]
    exact cl_congr _ _ fun x hx y _ => bes_ad1 ha hb hN (List.mem_range.1 (List.mem_filter.1 hx).1)
  · refine List.map_congr_left fun v hv => ?_
    simp only [Function.comp]
    refine congrArg (fun n : Nat => (n : Int)) ?_
    rw [List.filter_append]
    have e1 : (List.range N).filter (ad (rowsL (N + M) (putsL (besL N a b))) (v + N)) = [] := List.filter_eq_nil_iff.2 fun x hx => by
      rw [bes_ad3 ha hb hN (List.mem_range.1 hx)]; simp
    have e2 : ((List.range M).map (· + N)).filter (ad (rowsL (N + M) (putsL (besL N a b))) (v + N)) = ((List.range M).filter (ad (rowsL M b) v)).map (· + N) := by
      rw [List.filter_map]
      congr 1
      exact List.filter_congr fun x _ => bes_ad2 ha hb hN
    rw [e1, e2, List.nil_append, cl_map]
    exact cl_congr _ _ fun x _ y _ => bes_ad2 ha hb hN
end
end Go.Proofs.YtknlmgcbdcepnaaDoor
