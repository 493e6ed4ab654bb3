/- The h-index of a list, and that of the core numbers of a node's neighbours. -/
import Derived.Test.YtciehcageghggaaDoorChkM
set_option linter.unusedVariables false
namespace Go.Proofs.YtciehcageghggaaDoor
open Go.RowKit CoBit

/-- How many numbers of the list are at least t. -/
def cntG (xs : List Int) (t : Int) : Nat := (xs.filter fun x => decide (t ≤ x)).length
def IsH (xs : List Int) (h : Nat) : Prop := h ≤ cntG xs h ∧ ∀ t : Nat, h < t → cntG xs t < t
theorem cntG_append (a b : List Int) (t : Int) : cntG (a ++ b) t = cntG a t + cntG b t := by simp [cntG]
theorem cntG_le (xs : List Int) (t : Int) : cntG xs t ≤ xs.length := List.length_filter_le _ _
theorem isH_unique {xs : List Int} {a b : Nat} (ha : IsH xs a) (hb : IsH xs b) : a = b := by
  rcases Nat.lt_trichotomy a b with h | h | h
  · have := ha.2 b h; have := hb.1; omega
  · exact h
  · have := hb.2 a h; have := ha.1; omega
theorem cnt_ge {l : List Int} (hs : l.Pairwise (· ≥ ·)) {j : Nat} {y t : Int} (hj : l[j]? = some y) (ht : t ≤ y) : j + 1 ≤ cntG l t := by
  have h1 : cntG l t = cntG (l.take (j + 1)) t + cntG (l.drop (j + 1)) t := by rw [← cntG_append, List.take_append_drop]
  have h2 : cntG (l.take (j + 1)) t = j + 1 := by
    unfold cntG
    rw [List.filter_eq_self.2, List.length_take]
    · obtain ⟨hlt, _⟩ := List.getElem?_eq_some_iff.1 hj
      omega
    · intro x hx
      rw [take_at hj] at hx
      rcases List.mem_append.1 hx with hx | hx
      · rw [← List.take_append_drop j l, drop_at hj] at hs
        have := (List.pairwise_append.1 hs).2.2 x hx y (by simp)
        exact decide_eq_true (by omega)
      · obtain rfl := List.mem_singleton.1 hx
        exact decide_eq_true ht
  omega
theorem cnt_lt {l : List Int} (hs : l.Pairwise (· ≥ ·)) {j : Nat} {y t : Int} (hj : l[j]? = some y) (ht : y < t) : cntG l t ≤ j := by
  have h1 : cntG l t = cntG (l.take j) t + cntG (l.drop j) t := by rw [← cntG_append, List.take_append_drop]
  have h2 : cntG (l.drop j) t = 0 := by
    unfold cntG
    rw [List.filter_eq_nil_iff.2]
    · rfl
    · intro x hx
      rw [← List.take_append_drop j l] at hs
      have hs2 := (List.pairwise_append.1 hs).2.1
      rw [drop_at hj] at hs2 hx
      rcases List.mem_cons.1 hx with rfl | hx
      · simp; omega
      · have := (List.pairwise_cons.1 hs2).1 x hx
        simp; omega
  have h3 := cntG_le (l.take j) t
  rw [List.length_take] at h3
  omega
/-- How far the search has come. -/
def HTo (l : List Int) (i h : Nat) : Prop := h ≤ i ∧ (0 < h → ∃ y, l[h - 1]? = some y ∧ (h : Int) ≤ y) ∧ ∀ j y, h ≤ j → j < i → l[j]? = some y → y < (j : Int) + 1
theorem hTo_start (l : List Int) : HTo l 0 0 := ⟨Nat.le_refl _, fun h => absurd h (by omega), fun j y h h' => absurd h' (by omega)⟩
theorem hTo_yes {l : List Int} {i h : Nat} {x : Int} (hh : HTo l i h) (hx : l[i]? = some x) (h1 : (i : Int) + 1 ≤ x) : HTo l (i + 1) (i + 1) :=
  ⟨Nat.le_refl _, fun _ => ⟨x, hx, by omega⟩, fun j y h h' => absurd h' (by omega)⟩
theorem hTo_no {l : List Int} {i h : Nat} {x : Int} (hh : HTo l i h) (hx : l[i]? = some x) (h1 : ¬ (i : Int) + 1 ≤ x) : HTo l (i + 1) h :=
  ⟨by have := hh.1; omega, hh.2.1, fun j y hj hj' hy => by
    rcases Nat.lt_or_ge j i with h | h
    · exact hh.2.2 j y hj h hy
    · obtain rfl : j = i := by omega
      rw [hx] at hy; injection hy with hy; omega⟩
theorem hTo_done {l : List Int} {i h : Nat} (hs : l.Pairwise (· ≥ ·)) (hh : HTo l i h) (hi : l.length ≤ i) : IsH l h := by
  refine ⟨?_, fun t ht => ?_⟩
  · rcases Nat.eq_zero_or_pos h with rfl | h0
    · omega
    · obtain ⟨y, hy, h1⟩ := hh.2.1 h0
      have := cnt_ge hs hy h1
      omega
  · rcases Nat.lt_or_ge l.length t with hlt | hge
    · have := cntG_le l t; omega
    · have hj : l[t - 1]? = some (l[t - 1]'(by omega)) := List.getElem?_eq_getElem _
      have h2 := hh.2.2 (t - 1) _ (by omega) (by omega) hj
      have := cnt_lt (t := (t : Int)) hs hj (by omega)
      omega
theorem cntG_perm {a b : List Int} (h : a.Perm b) (t : Int) : cntG a t = cntG b t := (h.filter _).length_eq
theorem isH_perm {a b : List Int} (h : a.Perm b) {n : Nat} (hb : IsH a n) : IsH b n :=
  ⟨by rw [← cntG_perm h]; exact hb.1, fun t ht => by rw [← cntG_perm h]; exact hb.2 t ht⟩
/-- What 'falling' has made of the list's beginning. -/
def Fall (xs l : List Int) : Prop := l.Perm xs ∧ l.Pairwise (· ≥ ·)
theorem fall_nil : Fall [] [] := ⟨List.Perm.refl _, List.Pairwise.nil⟩
theorem fall_put {xs l : List Int} {x : Int} {k i : Nat} (h : Fall (xs.take k) l) (hk : xs[k]? = some x) (h1 : ∀ y ∈ l.drop i, y < x) (h2 : 0 < i → ∀ y, l[i - 1]? = some y → x ≤ y) (hi : i ≤ l.length) :
    Fall (xs.take (k + 1)) (l.take i ++ [x] ++ l.drop i) := by
  refine ⟨?_, ?_⟩
  · rw [take_at hk]
    have e : (l.take i ++ [x] ++ l.drop i).Perm (l.take i ++ l.drop i ++ [x]) := by
      rw [List.append_assoc, List.append_assoc]
      exact List.Perm.append_left _ List.perm_append_comm
    rw [List.take_append_drop] at e
    exact e.trans (List.Perm.append_right _ h.1)
  · have hs := h.2
    rw [← List.take_append_drop i l] at hs
    obtain ⟨ha, hb, hab⟩ := List.pairwise_append.1 hs
    have htk : ∀ y ∈ l.take i, x ≤ y := fun y hy => by
      obtain ⟨j, hj⟩ := List.mem_iff_getElem?.1 hy
      rw [List.getElem?_take] at hj
      split at hj
      · rename_i hji
        have hm : l[i - 1]? = some (l[i - 1]'(by omega)) := List.getElem?_eq_getElem _
        have h3 := h2 (by omega) _ hm
        rcases Nat.lt_or_ge j (i - 1) with hlt | hge
        · have h4 := List.pairwise_iff_getElem.1 h.2 j (i - 1) (by omega) (by omega) hlt
          obtain ⟨_, h5⟩ := List.getElem?_eq_some_iff.1 hj
          omega
        · obtain rfl : j = i - 1 := by omega
          rw [hm] at hj; injection hj with hj; omega
      · cases hj
    refine List.pairwise_append.2 ⟨List.pairwise_append.2 ⟨ha, List.pairwise_singleton _ _, fun a ha' b hb' => by rw [List.mem_singleton.1 hb']; exact htk a ha'⟩, hb, fun a ha' b hb' => ?_⟩
    rcases List.mem_append.1 ha' with h3 | h3
    · exact hab a h3 b hb'
    · rw [List.mem_singleton.1 h3]; exact Int.le_of_lt (h1 b hb')
theorem num_h {nb : Int → List Int} {n : Nat} {ns : List Int} (hirr : ∀ v, v ∉ nb v) (hrg : ∀ v x, x ∈ nb v → 0 ≤ x ∧ x < n) (hn : IsNums nb n ns) {v h : Nat} (hv : v < n)
    (hh : IsH ((nb v).map fun w => ns.getD w.toNat 0) h) : ns.getD v 0 = h := by
  have h0 := (hn.2 v hv).1
  obtain ⟨c, hc⟩ := Int.eq_ofNat_of_zero_le h0
  have e : ∀ t : Int, cntG ((nb v).map fun w => ns.getD w.toNat 0) t = ((nb v).filter fun w => decide (t ≤ ns.getD w.toNat 0)).length := fun t => by
    unfold cntG
    rw [List.filter_map, List.length_map]; rfl
  have hc1 : IsH ((nb v).map fun w => ns.getD w.toNat 0) c := by
    refine ⟨?_, fun t ht => ?_⟩
    · rw [e, ← hc]
      have := num_hi hn hv
      unfold hi at this
      rw [Int.toNat_natCast] at this
      omega
    · rw [e]
      refine Nat.lt_of_not_le fun hle => (hn.2 v hv).2.2 ?_
      refine ⟨(v : Int) :: (rng n).filter fun w => decide ((t : Int) ≤ ns.getD w.toNat 0), by simp, fun u hu => ?_⟩
      rcases List.mem_cons.1 hu with rfl | hu
      · refine ⟨by omega, by omega, ?_⟩
        have : ((nb v).filter fun w => decide ((t : Int) ≤ ns.getD w.toNat 0)).length ≤ dg nb ((v : Int) :: (rng n).filter fun w => decide ((t : Int) ≤ ns.getD w.toNat 0)) v := by
          unfold dg
          refine filter_le fun w hw hw' => decide_eq_true (List.mem_cons_of_mem _ (List.mem_filter.2 ⟨mem_rng.2 (hrg _ _ hw), hw'⟩))
        omega
      · obtain ⟨hu1, hu2⟩ := List.mem_filter.1 hu
        have hur := mem_rng.1 hu1
        have hu3 : (t : Int) ≤ ns.getD u.toNat 0 := of_decide_eq_true hu2
        refine ⟨hur.1, hur.2, ?_⟩
        obtain ⟨x, rfl⟩ := Int.eq_ofNat_of_zero_le hur.1
        obtain ⟨S, hxS, hS⟩ := (hn.2 x (by omega)).2.1
        have h1 := (hS x hxS).2.2
        have h2 : dg nb S x ≤ dg nb ((v : Int) :: (rng n).filter fun w => decide ((t : Int) ≤ ns.getD w.toNat 0)) x := dg_mono fun z hz => by
          have hz' := hS z hz
          obtain ⟨y, rfl⟩ := Int.eq_ofNat_of_zero_le hz'.1
          have hy : inC nb n (ns.getD x 0) (y : Int) := ⟨S, hz, hS⟩
          have hy2 := num_ge hn hy (by omega)
          refine List.mem_cons_of_mem _ (List.mem_filter.2 ⟨mem_rng.2 ⟨hz'.1, hz'.2.1⟩, decide_eq_true ?_⟩)
          rw [Int.toNat_natCast] at hu3 ⊢
          omega
        rw [Int.toNat_natCast] at hu3
        omega
  rw [hc, isH_unique hc1 hh]
end Go.Proofs.YtciehcageghggaaDoor
