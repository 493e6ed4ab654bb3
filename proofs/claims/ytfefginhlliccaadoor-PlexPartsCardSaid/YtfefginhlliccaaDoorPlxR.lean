/- Plain laws: 1-plexes are cliques. -/
import Derived.Test.YtfefginhlliccaaDoorPlxO
import Derived.Test.YtfefginhlliccaaDoorPlxQ
set_option linter.unusedVariables false
set_option linter.unusedSimpArgs false
namespace Go.Proofs.YtfefginhlliccaaDoor.Pl
open Go.RowKit Go.Shelf CoBit CoCli Go.Proofs.YtfefginhlliccaaDoor

theorem clq_all {a : Nat → Nat → Bool} {S : List Nat} (hs : ∀ u w, a u w = a w u) (h : clq a S) {u v : Nat} (hu : u ∈ S) (hv : v ∈ S) (hne : u ≠ v) : a u v = true := by
  obtain ⟨i, hi, rfl⟩ := List.getElem_of_mem hu
  obtain ⟨j, hj, rfl⟩ := List.getElem_of_mem hv
  have hp := List.pairwise_iff_getElem.1 h
  rcases Nat.lt_trichotomy i j with h1 | h1 | h1
  · exact hp i j hi hj h1
  · subst h1; exact absurd rfl hne
  · rw [hs]; exact hp j i hj hi h1
theorem plx_one {a : Nat → Nat → Bool} {S : List Nat} (hs : ∀ u w, a u w = a w u) (hi : ∀ u, a u u = false) (hn : S.Nodup) : plx a 1 S ↔ clq a S := by
  constructor
  · intro h
    refine hn.imp_of_mem fun {u v} hu hv hne => ?_
    cases huv : a u v with
    | true => rfl
    | false =>
      have h1 := h u hu
      have h2 := List.Nodup.length_le_of_subset (l₁ := u :: v :: S.filter (a u)) (l₂ := S) (by
        rw [List.nodup_cons, List.nodup_cons]
        refine ⟨fun hm => ?_, fun hm => ?_, hn.filter _⟩
        · rw [List.mem_cons] at hm
          rcases hm with hm | hm
          · exact hne hm
          · have := (List.mem_filter.1 hm).2
            rw [hi] at this; cases this
        · have := (List.mem_filter.1 hm).2
          rw [huv] at this; cases this) (by
        intro x hx
        rw [List.mem_cons, List.mem_cons] at hx
        rcases hx with rfl | rfl | hx
        · exact hu
        · exact hv
        · exact (List.mem_filter.1 hx).1)
      unfold dgs at h1
      simp only [List.length_cons] at h2
      omega
  · intro h v hv
    have h2 := List.Nodup.length_le_of_subset (l₁ := S) (l₂ := v :: S.filter (a v)) hn (by
      intro x hx
      rw [List.mem_cons]
      by_cases hxv : x = v
      · exact .inl hxv
      · exact .inr (List.mem_filter.2 ⟨hx, clq_all hs h hv hx (fun e => hxv e.symm)⟩))
    unfold dgs
    simp only [List.length_cons] at h2
    omega
theorem mxl_one {a : Nat → Nat → Bool} {n : Nat} {S : List Nat} (hs : ∀ u w, a u w = a w u) (hi : ∀ u, a u u = false) (hn : S.Nodup) : mxl a n 1 S ↔ mcl a n S := by
  unfold mxl mcl
  rw [plx_one hs hi hn]
  constructor
  · rintro ⟨h1, h2, h3⟩
    refine ⟨h2, h1, fun v hv hf => ?_⟩
    have hvS : v ∉ S := fun hm => (hf v hm).1 rfl
    refine h3 v hv hvS ((plx_one hs hi (List.nodup_cons.2 ⟨hvS, hn⟩)).2 (List.pairwise_cons.2 ⟨fun u hu => ?_, h2⟩))
    rw [hs]; exact (hf u hu).2
  · rintro ⟨h1, h2, h3⟩
    refine ⟨h2, h1, fun v hv hvS hp => h3 v hv fun u hu => ?_⟩
    have := (plx_one hs hi (List.nodup_cons.2 ⟨hvS, hn⟩)).1 hp
    refine ⟨fun e => hvS (e ▸ hu), ?_⟩
    rw [hs]; exact (List.pairwise_cons.1 this).1 u hu
theorem plx_more {a : Nat → Nat → Bool} {k k' : Nat} {S : List Nat} (h : plx a k S) (hk : k ≤ k') : plx a k' S := fun v hv => by have := h v hv; omega
theorem plx_few {a : Nat → Nat → Bool} {k : Nat} {S : List Nat} (h : S.length ≤ k) : plx a k S := fun v hv => by omega
theorem isB_of {n : Nat} {es : List (Int × Int)} {q : Nat} (hc : chkG n es = 0) (hq : 1 ≤ q) (hq3 : q ≤ 3) {S : List Nat} (h : S.Pairwise (· < ·)) (hn : ∀ x ∈ S, x < n) : isB n es (nt S) q = decide (plx (ad (rowsL n es)) q S) := by
  unfold isB
  rw [toNat_nt, decide_eq_true (⟨hc, by omega, by omega, vld_nt h hn⟩ : chkG n es = 0 ∧ 1 ≤ (q : Int) ∧ (q : Int) ≤ 3 ∧ Vld (nt S) n), Int.toNat_natCast, Int.toNat_natCast, Bool.true_and]
theorem meet_nt {S : List Nat} (h : S.Pairwise (· < ·)) (ys : List Int) : meetL (nt S) ys = nt (S.filter fun x => decide ((x : Int) ∈ ys)) := by
  rw [meet_sorted (vld_nt h (n := S.foldl (fun a x => a + x + 1) 0) (fun x hx => ?_)).2]
  · unfold nt
    rw [List.filter_map]; rfl
  · have key : ∀ (l : List Nat) (a : Nat), a ≤ l.foldl (fun a x => a + x + 1) a := by
      intro l; induction l with
      | nil => intro a; exact Nat.le_refl _
      | cons y l ih => intro a; exact Nat.le_trans (by omega) (ih (a + y + 1))
    have : ∀ (l : List Nat) (a : Nat), x ∈ l → x < l.foldl (fun a x => a + x + 1) a := by
      intro l; induction l with
      | nil => intro a h; cases h
      | cons y l ih =>
        intro a h
        rw [List.mem_cons] at h
        rcases h with rfl | h
        · exact Nat.lt_of_lt_of_le (show x < a + x + 1 by omega) (key l _)
        · exact ih _ h
    exact this S 0 hx
end Go.Proofs.YtfefginhlliccaaDoor.Pl
