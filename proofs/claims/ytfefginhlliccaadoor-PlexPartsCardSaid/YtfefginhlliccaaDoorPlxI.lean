/- Plain laws of k-plexes: how many there are; two nodes that are not joined have a common neighbour. -/
import Derived.Test.YtfefginhlliccaaDoorPlxN
set_option linter.unusedVariables false
set_option linter.unusedSimpArgs false
namespace Go.Proofs.YtfefginhlliccaaDoor.Pl
open Go.RowKit CoBit CoCli Go.Proofs.YtfefginhlliccaaDoor

theorem ext_len : ∀ (L p : List Nat), (ext p L).length + 1 = 2 ^ L.length := by
  intro L
  induction L with
  | nil => intro p; rfl
  | cons v L ih =>
    intro p
    have h1 := ih (p ++ [v])
    have h2 := ih p
    rw [ext, List.length_append, List.length_cons, List.length_cons, Nat.pow_succ]
    omega
theorem plexs_len (n : Nat) (es : List (Int × Int)) (k least : Nat) (after : List Int) : (plexs n es k least after).length ≤ 2 ^ n := by
  have h1 := List.length_filter_le (fun S => want (ad (rowsL n es)) n k least S && gt after S) (lx [] (List.range n))
  have h2 := ext_len (List.range n) []
  rw [List.length_range] at h2
  unfold plexs
  unfold lx at h1 ⊢
  rw [List.length_cons, h2] at h1
  exact h1
theorem plexs_small {n : Nat} (hn : n ≤ 8) (es : List (Int × Int)) (k least : Nat) (after : List Int) : (plexs n es k least after).length ≤ 256 :=
  Nat.le_trans (plexs_len n es k least after) (Nat.le_trans (Nat.pow_le_pow_right (by omega) hn) (by decide))
theorem mem_plexs {n : Nat} {es : List (Int × Int)} {k least : Nat} {after : List Int} {S : List Nat} (h : S ∈ plexs n es k least after) : S.Pairwise (· < ·) ∧ (∀ x ∈ S, x < n) ∧ least ≤ S.length ∧ mxl (ad (rowsL n es)) n k S ∧ gt after S = true := by
  unfold plexs at h
  rw [List.mem_filter, Bool.and_eq_true] at h
  obtain ⟨h1, h2, h3⟩ := h
  obtain ⟨h4, h5⟩ := sub_range h1
  unfold want at h2
  rw [Bool.and_eq_true, decide_eq_true_iff, decide_eq_true_iff] at h2
  exact ⟨h4, h5, h2.1, h2.2, h3⟩
theorem two_deg {a : Nat → Nat → Bool} {u v : Nat} (hne : u ≠ v) (huu : a u u = false) (hvv : a v v = false) (huv : a u v = false) (hvu : a v u = false) :
    ∀ S : List Nat, S.Nodup → (∀ x ∈ S, ¬ (a u x = true ∧ a v x = true)) → dgs a S u + dgs a S v + (if u ∈ S then 1 else 0) + (if v ∈ S then 1 else 0) ≤ S.length := by
  intro S
  induction S with
  | nil => intro _ _; simp [dgs]
  | cons x S ih =>
    intro hn hx
    rw [List.nodup_cons] at hn
    have h1 := ih hn.2 (fun y hy => hx y (List.mem_cons_of_mem _ hy))
    have h0 := hx x List.mem_cons_self
    have e : ∀ w, dgs a (x :: S) w = (if a w x = true then 1 else 0) + dgs a S w := fun w => by
      unfold dgs; rw [List.filter_cons]; split <;> simp <;> omega
    rw [e u, e v, List.length_cons]
    by_cases hxu : x = u
    · subst hxu
      have h2 : ¬ v = x := fun h => hne h.symm
      rw [huu, hvu, if_pos List.mem_cons_self]
      rw [if_neg hn.1] at h1
      have h3 : (if v ∈ x :: S then 1 else 0) = (if v ∈ S then 1 else 0) := by simp [h2]
      rw [h3]; simp; omega
    · by_cases hxv : x = v
      · subst hxv
        rw [huv, hvv, if_pos (show x ∈ x :: S from List.mem_cons_self)]
        rw [if_neg hn.1] at h1
        have h3 : (if u ∈ x :: S then 1 else 0) = (if u ∈ S then 1 else 0) := by simp [hne]
        rw [h3]; simp; omega
      · have h3 : (if u ∈ x :: S then 1 else 0) = (if u ∈ S then 1 else 0) := by simp [show ¬ u = x from fun h => hxu h.symm]
        have h4 : (if v ∈ x :: S then 1 else 0) = (if v ∈ S then 1 else 0) := by simp [show ¬ v = x from fun h => hxv h.symm]
        rw [h3, h4]
        cases ha : a u x <;> cases hb : a v x <;> simp_all <;> omega
/-- In a k-plex with at least two times k, less one, nodes: two nodes that are not joined have a common neighbour. -/
theorem plex_two {a : Nat → Nat → Bool} {k : Nat} {S : List Nat} (hs : ∀ u w, a u w = a w u) (hi : ∀ u, a u u = false) (hn : S.Nodup) (hp : plx a k S) (hl : 2 * k - 1 ≤ S.length) {u v : Nat} (hu : u ∈ S) (hv : v ∈ S) (hne : u ≠ v) (huv : a u v = false) :
    ∃ x ∈ S, a u x = true ∧ a v x = true := by
  refine Classical.byContradiction fun hno => ?_
  have h1 := two_deg hne (hi u) (hi v) huv (by rw [hs]; exact huv) S hn (fun x hx h => hno ⟨x, hx, h⟩)
  rw [if_pos hu, if_pos hv] at h1
  have h2 := hp u hu
  have h3 := hp v hv
  omega
theorem vld_nt {S : List Nat} {n : Nat} (h : S.Pairwise (· < ·)) (hn : ∀ x ∈ S, x < n) : Vld (nt S) n := by
  constructor
  · intro x hx
    unfold nt at hx
    rw [List.mem_map] at hx
    obtain ⟨y, hy, rfl⟩ := hx
    have := hn y hy
    exact ⟨Int.natCast_nonneg _, by show (y : Int) < n; omega⟩
  · unfold nt
    rw [List.pairwise_map]
    exact h.imp fun h => by show (Int.ofNat _ : Int) < Int.ofNat _; exact Int.ofNat_lt.2 h
end Go.Proofs.YtfefginhlliccaaDoor.Pl
