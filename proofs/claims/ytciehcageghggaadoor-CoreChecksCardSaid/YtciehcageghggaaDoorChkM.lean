/- Numbers that are accepted: the core numbers with the order of the cores are, and whatever is accepted is the core numbers. -/
import Derived.Test.YtciehcageghggaaDoorOrdM
import Derived.Test.YtciehcageghggaaDoorRCoF
set_option linter.unusedVariables false
set_option linter.unusedSimpArgs false
namespace Go.Proofs.YtciehcageghggaaDoor
open Go.RowKit CoBit

theorem per_at {o : List Int} {n : Nat} (h : Per o n) {v : Nat} (hv : v < n) : ∃ i : Nat, o[i]? = some (v : Int) := by
  obtain ⟨k, hk, hkv⟩ := List.getElem_of_mem (per_all h hv)
  exact ⟨k, by rw [List.getElem?_eq_getElem hk, hkv]⟩
theorem drop_pos {o : List Int} (hnd : o.Nodup) {i k : Nat} {v : Int} (hi : o[i]? = some v) (hv : v ∈ o.drop k) : k ≤ i := by
  obtain ⟨j, hj⟩ := List.mem_iff_getElem?.1 hv
  rw [List.getElem?_drop] at hj
  have := nodup_at hnd hi hj
  omega
theorem take_pos {o : List Int} (hnd : o.Nodup) {i k : Nat} {v : Int} (hi : o[i]? = some v) (hv : v ∈ o.take k) : i < k := by
  obtain ⟨j, hj⟩ := List.mem_iff_getElem?.1 hv
  rw [List.getElem?_take] at hj
  split at hj
  · have := nodup_at hnd hi hj
    omega
  · cases hj
/-- In the order of the cores the rest behind the first node of a k-set is one, too. -/
theorem rest_core {nb : Int → List Int} {n : Nat} {o : List Int} (hp : PS nb n o) (hol : o.length = n) {c : Int} {u : Int} (hu : inC nb n c u) :
    ∃ k y, o[k]? = some y ∧ (∀ x ∈ rst n (o.take k), inC nb n c x) ∧ u ∈ o.drop k := by
  have hr := ps_range hp
  have hper : Per o n := ⟨hol, hr.1, hr.2⟩
  obtain ⟨S, huS, hS⟩ := hu
  have hall : ∀ u ∈ S, u ∈ o := fun u hu => by
    have := hS u hu
    obtain ⟨i, rfl⟩ := Int.eq_ofNat_of_zero_le this.1
    exact per_all hper (by omega)
  obtain ⟨k, y, hk, hyS, hdr⟩ := first_in ⟨_, huS, hall _ huS⟩
  refine ⟨k, y, hk, fun x hx => ?_, hdr u huS (hall u huS)⟩
  have hb := hp k y hk
  have h1 : dg nb S y ≤ dg nb (rst n (o.take k)) y := dg_mono fun z hz => by
    refine mem_rst.2 ⟨⟨(hS z hz).1, (hS z hz).2.1⟩, fun hz' => ?_⟩
    have hnd : (o.take k ++ o.drop k).Nodup := by rw [List.take_append_drop]; exact hr.1
    exact (List.nodup_append.1 hnd).2.2 z hz' z (hdr z hz (hall z hz)) rfl
  refine ⟨rst n (o.take k), hx, fun z hz => ⟨(mem_rst.1 hz).1.1, (mem_rst.1 hz).1.2, ?_⟩⟩
  have h2 := hb.2 z hz
  have h3 := (hS y hyS).2.2
  unfold bef at h2
  omega
theorem num_ge {nb : Int → List Int} {n : Nat} {ns : List Int} (hn : IsNums nb n ns) {c : Int} {v : Nat} (h : inC nb n c v) (hv : v < n) : c ≤ ns.getD v 0 := by
  by_cases h' : c ≤ ns.getD v 0
  · exact h'
  · exact absurd (inC_mono h (by omega)) (hn.2 v hv).2.2
theorem filter_le {α : Type} {l : List α} {p q : α → Bool} (h : ∀ x ∈ l, p x = true → q x = true) : (l.filter p).length ≤ (l.filter q).length := by
  induction l with
  | nil => simp
  | cons a l ih =>
    have ih := ih fun x hx => h x (by simp [hx])
    have ha := h a (by simp)
    by_cases hp : p a = true
    · simp [hp, ha hp]; omega
    · by_cases hq : q a = true
      · simp [hp, hq]; omega
      · simp [hp, hq]; omega
theorem num_hi {nb : Int → List Int} {n : Nat} {ns : List Int} (hn : IsNums nb n ns) {v : Nat} (hv : v < n) : ns.getD v 0 ≤ (hi nb ns v : Int) := by
  obtain ⟨S, hvS, hS⟩ := (hn.2 v hv).2.1
  have h1 := (hS v hvS).2.2
  have h2 : dg nb S v ≤ hi nb ns v := by
    unfold dg hi
    refine filter_le fun w _ hw => ?_
    have hw' : w ∈ S := of_decide_eq_true hw
    have hwr := hS w hw'
    obtain ⟨x, rfl⟩ := Int.eq_ofNat_of_zero_le hwr.1
    have hc : inC nb n (ns.getD v 0) (x : Int) := ⟨S, hw', hS⟩
    have := num_ge hn hc (by omega)
    simpa using this
  omega
theorem chk_ok {nb : Int → List Int} {n : Nat} {ns o : List Int} (hn : IsNums nb n ns) (hp : PS nb n o) (hol : o.length = n) : okTo nb ns o o.length := by
  have hr := ps_range hp
  have hper : Per o n := ⟨hol, hr.1, hr.2⟩
  intro i v hi hv
  have hvr := hr.2 v (mem_at hv)
  obtain ⟨x, rfl⟩ := Int.eq_ofNat_of_zero_le hvr.1
  have hx : x < n := by omega
  refine ⟨fun u h0 hu => ?_, ?_, ?_⟩
  · have hur := hr.2 u (mem_at hu)
    obtain ⟨y, rfl⟩ := Int.eq_ofNat_of_zero_le hur.1
    rw [Int.toNat_natCast, Int.toNat_natCast]
    obtain ⟨k, z, hk, hall, hud⟩ := rest_core hp hol (hn.2 y (by omega)).2.1
    have hki := drop_pos hr.1 hu hud
    refine num_ge hn (hall _ (mem_rst.2 ⟨by omega, fun hm => ?_⟩)) hx
    have := take_pos hr.1 hv hm
    omega
  · rw [Int.toNat_natCast]
    have hb := hp i x hv
    have hin : inC nb n (dg nb (rst n (o.take i)) x) x := ⟨rst n (o.take i), hb.1, fun u hu => ⟨(mem_rst.1 hu).1.1, (mem_rst.1 hu).1.2, by
      have := hb.2 u hu
      unfold bef at this
      omega⟩⟩
    have hmono : dg nb (o.drop (i + 1)) x ≤ dg nb (rst n (o.take i)) x := dg_mono fun u hu => by
      refine mem_rst.2 ⟨hr.2 u (List.mem_of_mem_drop hu), fun hu' => ?_⟩
      have hnd : (o.take i ++ o.drop i).Nodup := by rw [List.take_append_drop]; exact hr.1
      rw [drop_at hv] at hnd
      exact (List.nodup_append.1 hnd).2.2 u hu' u (by simp [hu]) rfl
    have := num_ge hn hin hx
    omega
  · rw [Int.toNat_natCast]
    exact num_hi hn hx
/-- Along an accepted order the numbers ascend. -/
theorem ok_asc {nb : Int → List Int} {ns o : List Int} (h : okTo nb ns o o.length) (d : Nat) : ∀ (i : Nat) (u v : Int), o[i]? = some u → o[i + d]? = some v → ns.getD u.toNat 0 ≤ ns.getD v.toNat 0 := by
  induction d with
  | zero => intro i u v hu hv; rw [Nat.add_zero, hu] at hv; injection hv with hv; subst hv; exact Int.le_refl _
  | succ d ih =>
    intro i u v hu hv
    obtain ⟨hlt, _⟩ := List.getElem?_eq_some_iff.1 hv
    have hm : o[i + d]? = some (o[i + d]'(by omega)) := List.getElem?_eq_getElem (by omega)
    have h1 := ih i u _ hu hm
    have h2 := (h (i + (d + 1)) v hlt hv).1 _ (by omega) (by rw [show i + (d + 1) - 1 = i + d by omega]; exact hm)
    omega
theorem ok_nums {nb : Int → List Int} {n : Nat} {ns o : List Int} (hirr : ∀ v, v ∉ nb v) (hrg : ∀ v x, x ∈ nb v → 0 ≤ x ∧ x < n) (ho : Per o n) (hl : ns.length = n) (h : okTo nb ns o o.length) : IsNums nb n ns := by
  refine ⟨hl, fun v hv => ?_⟩
  obtain ⟨i, hi'⟩ := per_at ho hv
  obtain ⟨hlt, _⟩ := List.getElem?_eq_some_iff.1 hi'
  have hok := h i v hlt hi'
  have h2 := hok.2.1
  rw [Int.toNat_natCast] at h2
  refine ⟨by omega, ?_, ?_⟩
  · refine ⟨(rng n).filter fun w => decide (ns.getD v 0 ≤ ns.getD w.toNat 0), List.mem_filter.2 ⟨mem_rng.2 (by omega), by simp⟩, fun u hu => ?_⟩
    obtain ⟨hu1, hu2⟩ := List.mem_filter.1 hu
    have hur := mem_rng.1 hu1
    have hu3 : ns.getD v 0 ≤ ns.getD u.toNat 0 := of_decide_eq_true hu2
    obtain ⟨x, rfl⟩ := Int.eq_ofNat_of_zero_le hur.1
    obtain ⟨j, hj⟩ := per_at ho (v := x) (by omega)
    obtain ⟨hjl, _⟩ := List.getElem?_eq_some_iff.1 hj
    have h3 := (h j x hjl hj).2.2
    refine ⟨hur.1, hur.2, ?_⟩
    have h4 : hi nb ns x ≤ dg nb ((rng n).filter fun w => decide (ns.getD v 0 ≤ ns.getD w.toNat 0)) x := by
      unfold dg hi
      refine filter_le fun w hw hw' => ?_
      have h5 : ns.getD (x : Int).toNat 0 ≤ ns.getD w.toNat 0 := of_decide_eq_true hw'
      refine decide_eq_true (List.mem_filter.2 ⟨mem_rng.2 (hrg _ _ hw), decide_eq_true ?_⟩)
      omega
    omega
  · rintro ⟨S, hvS, hS⟩
    have hall : ∀ u ∈ S, u ∈ o := fun u hu => by
      have := hS u hu
      obtain ⟨i, rfl⟩ := Int.eq_ofNat_of_zero_le this.1
      exact per_all ho (by omega)
    obtain ⟨k, y, hk, hyS, hdr⟩ := first_in ⟨_, hvS, hall _ hvS⟩
    obtain ⟨hkl, _⟩ := List.getElem?_eq_some_iff.1 hk
    have h1 : dg nb S y ≤ dg nb (o.drop (k + 1)) y := dg_sub fun u hu hS' => by
      have h2 := hdr u hS' (hall u hS')
      rw [drop_at hk, List.mem_cons] at h2
      rcases h2 with rfl | h2
      · exact absurd hu (hirr _)
      · exact h2
    have h3 := (h k y hkl hk).2.1
    have h4 := (hS y hyS).2.2
    have hki := drop_pos ho.2.1 hi' (hdr _ hvS (hall _ hvS))
    have h5 := ok_asc h (i - k) k y v hk (by rw [show k + (i - k) = i by omega]; exact hi')
    rw [Int.toNat_natCast] at h5
    omega
end Go.Proofs.YtciehcageghggaaDoor
