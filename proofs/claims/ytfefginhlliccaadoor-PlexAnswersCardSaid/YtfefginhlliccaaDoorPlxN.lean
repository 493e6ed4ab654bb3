/- The maximal k-plexes of a graph, in order. -/
import Derived.Test.YtfefginhlliccaaDoorPlxA
import Derived.Test.YtfefginhlliccaaDoorAwkM
set_option linter.unusedVariables false
set_option linter.unusedSimpArgs false
namespace Go.Proofs.YtfefginhlliccaaDoor.Pl
open Go.RowKit CoBit CoCli Go.Proofs.YtfefginhlliccaaDoor

theorem ad_bit {n : Nat} {es : List (Int × Int)} (hc : chkG n es = 0) (u v : Nat) : ad (rowsL n es) u v = true ↔ ((u : Int), (v : Int)) ∈ es ∨ ((v : Int), (u : Int)) ∈ es := rows_bit (chkE_lt (chkG_zero hc).2.2) u v
theorem ad_sym {n : Nat} {es : List (Int × Int)} (hc : chkG n es = 0) (u v : Nat) : ad (rowsL n es) u v = ad (rowsL n es) v u := by
  rw [Bool.eq_iff_iff, ad_bit hc, ad_bit hc, or_comm]
theorem ad_not {n : Nat} {es : List (Int × Int)} (hc : chkG n es = 0) (u : Nat) : ad (rowsL n es) u u = false := by
  cases h : ad (rowsL n es) u u with
  | false => rfl
  | true =>
    have := (ad_bit hc u u).1 h
    rcases this with h | h
    all_goals
      have := chkE_lt (chkG_zero hc).2.2 _ h
      simp at this
theorem ext_filter' {P : List Nat → Bool} {c : Nat → Bool} : ∀ (L p : List Nat), (∀ S ∈ ext p L, P S = true → ∀ x ∈ S, c x = true) → (ext p (L.filter c)).filter P = (ext p L).filter P := by
  intro L
  induction L with
  | nil => intro p _; rfl
  | cons v L ih =>
    intro p h
    have h1 : ∀ S ∈ ext (p ++ [v]) L, P S = true → ∀ x ∈ S, c x = true := fun S hS => h S (by rw [ext, List.mem_append, List.mem_cons]; exact .inl (.inr hS))
    have h2 : ∀ S ∈ ext p L, P S = true → ∀ x ∈ S, c x = true := fun S hS => h S (by rw [ext, List.mem_append]; exact .inr hS)
    rw [List.filter_cons]
    split
    · rw [ext, ext, List.filter_append, List.filter_append, List.filter_cons, List.filter_cons, ih _ h1, ih _ h2]
    · rename_i hc
      rw [ih _ h2, ext_cons, List.filter_append, filter_none (l := lx (p ++ [v]) L), List.nil_append]
      intro S hS
      have hS2 : S ∈ ext p (v :: L) := by rw [ext_cons, List.mem_append]; exact .inl hS
      obtain ⟨T, rfl, _⟩ := mem_lx.1 hS
      cases hP : P (p ++ [v] ++ T) with
      | false => rfl
      | true => exact absurd (h _ hS2 hP v (by simp)) hc
/-- The maximal k-plexes with enough nodes behind a list. -/
def plexs (n : Nat) (es : List (Int × Int)) (k least : Nat) (after : List Int) : List (List Nat) := (lx [] (List.range n)).filter fun S => want (ad (rowsL n es)) n k least S && gt after S
theorem sub_range {n : Nat} {S : List Nat} (h : S ∈ lx [] (List.range n)) : S.Pairwise (· < ·) ∧ ∀ x ∈ S, x < n := by
  obtain ⟨T, e, hs⟩ := mem_lx.1 h
  rw [List.nil_append] at e
  subst e
  exact ⟨List.Pairwise.sublist hs List.pairwise_lt_range, fun x hx => List.mem_range.1 (hs.subset hx)⟩
theorem dgs_dg {n : Nat} {es : List (Int × Int)} (hc : chkG n es = 0) (hn : n ≤ 64) {S : List Nat} (hs : S.Pairwise (· < ·)) (hS : ∀ x ∈ S, x < n) (v : Nat) : dgs (ad (rowsL n es)) S v = dg (nbG n es) (nt S) v := by
  have h64 : ∀ x ∈ S, x < 64 := fun x hx => Nat.lt_of_lt_of_le (hS x hx) hn
  have h1 := pop_dgs (rowsL n es) (mskN S) v
  rw [bl_msk hs h64] at h1
  rw [← h1]
  refine pop_dg hc hn v (mskN S) (nt S) fun i hi => ?_
  rw [mskN_bit, decide_eq_true_iff]
  unfold nt
  rw [List.mem_map]
  exact ⟨fun h => ⟨i, h, rfl⟩, fun ⟨j, hj, e⟩ => by have : j = i := Int.ofNat.inj e; rwa [← this]⟩
theorem mem_nt {l : List Nat} {i : Nat} : (i : Int) ∈ nt l ↔ i ∈ l := by
  unfold nt
  rw [List.mem_map]
  exact ⟨fun ⟨j, hj, e⟩ => by have : j = i := Int.ofNat.inj e; rwa [← this], fun h => ⟨i, h, rfl⟩⟩
/-- A k-plex with enough nodes lies in the core. -/
theorem plex_core {n : Nat} {es : List (Int × Int)} (hc : chkG n es = 0) (hn : n ≤ 64) {k least : Nat} {S : List Nat} (hs : S.Pairwise (· < ·)) (hS : ∀ x ∈ S, x < n) (hp : plx (ad (rowsL n es)) k S) (hl : least ≤ S.length) {x : Nat} (hx : x ∈ S) :
    inC (nbG n es) n ((least : Int) - (k : Int)) x := by
  refine ⟨nt S, mem_nt.2 hx, fun u hu => ?_⟩
  unfold nt at hu
  rw [List.mem_map] at hu
  obtain ⟨v, hv, rfl⟩ := hu
  have h1 := hp v hv
  rw [dgs_dg hc hn hs hS] at h1
  have h2 := hS v hv
  refine ⟨Int.natCast_nonneg _, by show (v : Int) < n; omega, ?_⟩
  show (least : Int) - k ≤ (dg (nbG n es) (nt S) (v : Int) : Int)
  omega
/-- Whatever the search among the core finds are the maximal ones. -/
theorem found_eq {n : Nat} {es : List (Int × Int)} (hc : chkG n es = 0) (hn : n ≤ 64) {k least : Nat} (hk : 1 ≤ k) {after : List Int} {L : List Nat} (hL : L.Pairwise (· < ·)) (hLn : ∀ x ∈ L, x < n) (hcore : ∀ v : Nat, inC (nbG n es) n ((least : Int) - (k : Int)) v → v ∈ L) :
    nodeL (ad (rowsL n es)) n k least after L [] [] true = plexs n es k least after := by
  rw [node_eq (ad_sym hc) (ad_not hc) hk L (hL.imp (fun h => Nat.ne_of_lt h)) hLn]
  have hLf : L = (List.range n).filter fun i => decide (i ∈ L) := nat_sorted_ext hL (List.pairwise_lt_range.filter _) fun i => by
    rw [List.mem_filter, List.mem_range, decide_eq_true_iff]
    exact ⟨fun h => ⟨hLn i h, h⟩, fun h => h.2⟩
  unfold plexs lx
  rw [List.filter_cons, List.filter_cons]
  have := ext_filter' (P := fun S => want (ad (rowsL n es)) n k least S && gt after S) (c := fun i => decide (i ∈ L)) (List.range n) [] (fun S hS hP x hx => by
    obtain ⟨h1, h2⟩ := sub_range (n := n) (S := S) (List.mem_cons_of_mem _ hS)
    rw [Bool.and_eq_true] at hP
    have hw := hP.1
    unfold want at hw
    rw [Bool.and_eq_true, decide_eq_true_iff, decide_eq_true_iff] at hw
    exact decide_eq_true (hcore x (plex_core hc hn h1 h2 hw.2.2.1 hw.1 hx)))
  rw [← hLf] at this
  rw [this]
end Go.Proofs.YtfefginhlliccaaDoor.Pl
