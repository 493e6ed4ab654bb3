/- The law CliquecountWhole: its plain law, and its walk. -/
import Derived.Test.YtknlmgcbdcepnaaDoorLwcC
set_option linter.unusedVariables false
set_option linter.unusedSimpArgs false
namespace Go.Proofs.YtknlmgcbdcepnaaDoor
open Go.RowKit CoBit CoCli

theorem fndE_mem {es : List (Int × Int)} {e : Int × Int} (h : e ∈ es) : 0 ≤ fndE es e := by
  unfold fndE
  split
  · omega
  · rename_i hn
    rw [List.findIdx?_eq_none_iff] at hn
    have := hn e h
    simp at this
theorem mem_edgeP {n : Int} {es : List (Int × Int)} (h : Srt n es) {u v : Int} : edgeP u v ∈ es ↔ ((u, v) ∈ es ∨ (v, u) ∈ es) := by
  unfold edgeP
  rcases Int.lt_trichotomy u v with hl | hl | hl
  · rw [Int.min_eq_left (by omega), Int.max_eq_right (by omega)]
    refine ⟨.inl, fun hh => ?_⟩
    rcases hh with hh | hh
    · exact hh
    · have := h.1 _ hh; simp at this; omega
  · subst hl; simp
  · rw [Int.min_eq_right (by omega), Int.max_eq_left (by omega)]
    refine ⟨.inr, fun hh => ?_⟩
    rcases hh with hh | hh
    · have := h.1 _ hh; simp at this; omega
    · exact hh
theorem srt_without {n : Int} {es : List (Int × Int)} (h : Srt n es) (e : Int × Int) : Srt n (withoutE es e) := ⟨fun x hx => h.1 x (List.mem_filter.1 hx).1, h.2.filter _⟩
theorem mem_without {es : List (Int × Int)} {e x : Int × Int} : x ∈ withoutE es e ↔ x ∈ es ∧ x ≠ e := by unfold withoutE; rw [List.mem_filter]; simp
theorem edgeP_eq {a b u v : Int} (h : a < b) : (a, b) = edgeP u v ↔ ((a = u ∧ b = v) ∨ (a = v ∧ b = u)) := by
  unfold edgeP
  rw [Prod.mk.injEq]
  omega
/-- Taking an edge away, and putting it back. -/
theorem ad_without {n : Nat} {es : List (Int × Int)} (hc : chkG n es = 0) (hs : Srt n es) (hn : n ≤ 64) {u v : Nat} (hm : edgeP u v ∈ es) (x y : Nat) :
    ad (rowsL n es) x y = (ad (rowsL n (withoutE es (edgeP u v))) x y || (decide (x = u ∧ y = v) || decide (x = v ∧ y = u))) := by
  have hc' : chkG n (withoutE es (edgeP u v)) = 0 := chk_of_srt (srt_without hs _) (by omega) (by omega)
  refine bool_iff ?_
  rw [ad_iff hc, Bool.or_eq_true, Bool.or_eq_true, ad_iff hc', mem_without, mem_without, decide_eq_true_iff, decide_eq_true_iff]
  have hm' := (mem_edgeP hs).1 hm
  constructor
  · intro h
    by_cases hxy : (x = u ∧ y = v) ∨ (x = v ∧ y = u)
    · exact .inr hxy
    · left
      rcases h with h | h
      · have hb := hs.1 _ h
        refine .inl ⟨h, fun e => hxy ?_⟩
        rw [edgeP_eq (by simpa using hb.2.1)] at e
        omega
      · have hb := hs.1 _ h
        refine .inr ⟨h, fun e => hxy ?_⟩
        rw [edgeP_eq (by simpa using hb.2.1)] at e
        omega
  · rintro ((h | h) | (⟨rfl, rfl⟩ | ⟨rfl, rfl⟩))
    · exact .inl h.1
    · exact .inr h.1
    · exact hm'
    · exact hm'.symm
theorem whl_without {n : Nat} {es : List (Int × Int)} (h : Whl n es) (hn : n ≤ 64) {u v : Nat} (hu : u < n) (hv : v < n) (hne : u ≠ v) (i : Nat) :
    cl (ad (rowsL n es)) (i + 2) (List.range n) = cl (ad (rowsL n (withoutE es (edgeP u v)))) (i + 2) (List.range n) + ch (n - 2) i := by
  have hc := whl_chk h hn
  have hm : edgeP u v ∈ es := by rw [mem_edgeP h.1, h.2, h.2]; omega
  have hc' : chkG n (withoutE es (edgeP u v)) = 0 := chk_of_srt (srt_without h.1 _) (by omega) (by omega)
  have hw := ad_without hc h.1 hn hm
  have hu' : u ∈ List.range n := List.mem_range.2 hu
  have hv' : v ∈ List.range n := List.mem_range.2 hv
  have huv : ad (rowsL n (withoutE es (edgeP u v))) u v = false := by
    rw [Bool.eq_false_iff]
    intro hh
    rw [ad_iff hc', mem_without, mem_without] at hh
    rcases hh with hh | hh
    · have := h.1.1 _ hh.1
      exact hh.2 ((edgeP_eq (by simpa using this.2.1)).2 (.inl ⟨rfl, rfl⟩))
    · have := h.1.1 _ hh.1
      exact hh.2 ((edgeP_eq (by simpa using this.2.1)).2 (.inr ⟨rfl, rfl⟩))
  rw [cl_edge i (fun x y => ad_symm hc' x y) (fun x => ad_irr hc' x) List.nodup_range hu' hv' hne huv hw]
  congr 1
  obtain ⟨M, hp, h1, h2⟩ := front List.nodup_range hu' hv' hne
  have hMn : (u :: v :: M).Nodup := hp.nodup_iff.1 List.nodup_range
  have hM : ∀ x ∈ M, x < n ∧ x ≠ u ∧ x ≠ v := fun x hx => ⟨List.mem_range.1 (hp.mem_iff.2 (by simp [hx])), fun e => h1 (e ▸ hx), fun e => h2 (e ▸ hx)⟩
  have had : ∀ x y : Nat, x < n → y < n → x ≠ y → ¬ (x = u ∧ y = v) → ¬ (x = v ∧ y = u) → ad (rowsL n (withoutE es (edgeP u v))) x y = true := by
    intro x y hx hy hxy n1 n2
    have := hw x y
    rw [whl_ad h hn hx hy hxy] at this
    simpa [n1, n2] using this.symm
  rw [cl_perm (fun x y => ad_symm hc' x y) i (List.Perm.filter _ hp), List.filter_cons, List.filter_cons, ad_irr hc' u, ad_irr hc' v]
  simp only [Bool.false_and, Bool.and_false, Bool.false_eq_true, if_false]
  have e : M.filter (fun x => ad (rowsL n (withoutE es (edgeP u v))) u x && ad (rowsL n (withoutE es (edgeP u v))) v x) = M := List.filter_eq_self.2 fun x hx => by
    obtain ⟨a1, a2, a3⟩ := hM x hx
    rw [had u x hu a1 (Ne.symm a2) (by omega) (by omega), had v x hv a1 (Ne.symm a3) (by omega) (by omega)]; rfl
  rw [e]
  have hlen : M.length = n - 2 := by have := hp.length_eq; simp at this; omega
  rw [← hlen]
  refine cl_whole _ i M ?_
  rw [List.nodup_cons, List.nodup_cons] at hMn
  exact List.Pairwise.imp_of_mem (fun {a b} ha hb hab => had a b (hM a ha).1 (hM b hb).1 hab (fun hh => (hM a ha).2.1 hh.1) (fun hh => (hM a ha).2.2 hh.1)) hMn.2.2
theorem chZ_ok {n k : Nat} (hn : n ≤ 64) : chZ n k = (ch n k : Nat) := by
  unfold chZ
  by_cases hk : k ≤ n
  · rw [if_neg (by omega)]; simp
  · rw [if_pos (by omega), ch_gt (by omega)]; rfl
/-- The numbers of the graph without one edge. -/
theorem whl_cnt2 {n : Nat} {es : List (Int × Int)} (h : Whl n es) (hn : n ≤ 64) {u v : Nat} (hu : u < n) (hv : v < n) (hne : u ≠ v) (k : Nat) :
    cntL n (withoutE es (edgeP u v)) k = (List.range k).map fun j => chZ n ((j + 1 : Nat) : Int) - chZ ((n : Int) - 2) ((j : Int) - 1) := by
  unfold cntL
  refine List.map_congr_left fun j _ => ?_
  rw [chZ_ok hn]
  cases j with
  | zero =>
    rw [cl_one, List.length_range, ch_one]
    have : chZ ((n : Int) - 2) (((0 : Nat) : Int) - 1) = 0 := by unfold chZ; rw [if_pos (by omega)]
    rw [this]; omega
  | succ i =>
    have h1 := whl_without h hn hu hv hne i
    rw [whl_cl h hn _ (fun x hx => List.mem_range.1 hx) List.nodup_range, List.length_range] at h1
    have h2 : chZ ((n : Int) - 2) (((i + 1 : Nat) : Int) - 1) = (ch (n - 2) i : Nat) := by
      rw [show (n : Int) - 2 = ((n - 2 : Nat) : Int) by omega, show ((i + 1 : Nat) : Int) - 1 = (i : Int) by omega, chZ_ok (by omega)]
    rw [h2, show i + 1 + 1 = i + 2 from rfl, h1]
    omega
theorem whl_cnt' {n : Nat} {es : List (Int × Int)} (h : Whl n es) (hn : n ≤ 64) (k : Nat) : cntL n es k = (List.range k).map fun j => chZ n ((j + 1 : Nat) : Int) := by
  rw [whl_cnt h hn]
  exact List.map_congr_left fun j _ => by rw [chZ_ok hn]
end Go.Proofs.YtknlmgcbdcepnaaDoor
