/- Plain maths: orders and the degeneracy. -/
import Derived.Test.YtdibfecejgjfmaaGreatDoorCorC
import Derived.Test.YtdibfecejgjfmaaGreatDoorSrtM
set_option linter.unusedVariables false
namespace Go.Proofs.YtdibfecejgjfmaaGreatDoor

theorem maxL_nonneg_aux (l : List Int) (a : Int) : a ≤ l.foldl (fun a x => max a x) a ∧ ∀ x ∈ l, x ≤ l.foldl (fun a x => max a x) a := by
  induction l generalizing a with
  | nil => simp
  | cons y l ih =>
    obtain ⟨h1, h2⟩ := ih (max a y)
    rw [List.foldl_cons]
    refine ⟨by omega, fun x hx => ?_⟩
    rcases List.mem_cons.1 hx with rfl | hx
    · omega
    · exact h2 x hx
theorem maxL_nonneg (l : List Int) : 0 ≤ maxL l := (maxL_nonneg_aux l 0).1
theorem maxL_ge {l : List Int} {x : Int} (h : x ∈ l) : x ≤ maxL l := (maxL_nonneg_aux l 0).2 x h
theorem maxL_le_aux (l : List Int) (a c : Int) (ha : a ≤ c) (h : ∀ x ∈ l, x ≤ c) : l.foldl (fun a x => max a x) a ≤ c := by
  induction l generalizing a with
  | nil => exact ha
  | cons y l ih =>
    rw [List.foldl_cons]
    exact ih _ (by have := h y (by simp); omega) fun x hx => h x (by simp [hx])
theorem maxL_le {l : List Int} {c : Int} (h0 : 0 ≤ c) (h : ∀ x ∈ l, x ≤ c) : maxL l ≤ c := maxL_le_aux l 0 c h0 h
theorem nbG_irr {n : Nat} {es : List (Int × Int)} (v : Int) : v ∉ nbG n es v := by
  intro h
  unfold nbG at h
  split at h
  · rename_i hc
    have he := chkE_lt (chkG_zero hc).2.2
    rw [mem_of, mem_nbl] at h
    have := he (v, v) (by simpa using h)
    simp at this
  · cases h
/-- The first place of a list that lies in a set. -/
theorem first_in {o S : List Int} (h : ∃ u ∈ S, u ∈ o) : ∃ k y, o[k]? = some y ∧ y ∈ S ∧ ∀ u ∈ S, u ∈ o → u ∈ o.drop k := by
  induction o with
  | nil => obtain ⟨u, _, hu⟩ := h; cases hu
  | cons a o ih =>
    by_cases ha : a ∈ S
    · exact ⟨0, a, rfl, ha, fun u _ hu => by simpa using hu⟩
    · have h' : ∃ u ∈ S, u ∈ o := by
        obtain ⟨u, hu, hm⟩ := h
        rcases List.mem_cons.1 hm with rfl | hm
        · exact absurd hu ha
        · exact ⟨u, hu, hm⟩
      obtain ⟨k, y, h1, h2, h3⟩ := ih h'
      refine ⟨k + 1, y, by simpa using h1, h2, fun u hu hm => ?_⟩
      rcases List.mem_cons.1 hm with rfl | hm
      · exact absurd hu ha
      · simpa using h3 u hu hm
theorem dg_sub {nb : Int → List Int} {L M : List Int} {v : Int} (h : ∀ x ∈ nb v, x ∈ L → x ∈ M) : dg nb L v ≤ dg nb M v := by
  unfold dg
  rw [← List.countP_eq_length_filter, ← List.countP_eq_length_filter]
  exact List.countP_mono_left fun x hx hL => decide_eq_true (h x hx (of_decide_eq_true hL))
theorem getD_mem {l : List Int} {i : Nat} (h : i < l.length) : l.getD i 0 ∈ l := by
  rw [List.getD_eq_getElem?_getD, List.getElem?_eq_getElem h]
  exact List.getElem_mem h
/-- No order leaves fewer neighbours behind than the greatest number. -/
theorem order_ge {nb : Int → List Int} {n : Nat} {ns o ls : List Int} (hirr : ∀ v, v ∉ nb v) (hn : IsNums nb n ns) (ho : Per o n) (hl : IsLater nb n o ls) : maxL ns ≤ maxL ls := by
  refine maxL_le (maxL_nonneg _) fun x hx => ?_
  obtain ⟨v, hv, rfl⟩ := List.getElem_of_mem hx
  have hv' : v < n := by rw [← hn.1]; exact hv
  have hin := (hn.2 v hv').2.1
  rw [List.getD_eq_getElem?_getD, List.getElem?_eq_getElem hv] at hin
  simp only [Option.getD_some] at hin
  obtain ⟨S, hvS, hS⟩ := hin
  have hall : ∀ u ∈ S, u ∈ o := fun u hu => by
    have := hS u hu
    obtain ⟨i, rfl⟩ := Int.eq_ofNat_of_zero_le this.1
    exact per_all ho (by omega)
  obtain ⟨k, y, hk, hyS, hdr⟩ := first_in ⟨_, hvS, hall _ hvS⟩
  have hy := hS y hyS
  obtain ⟨y, rfl⟩ := Int.eq_ofNat_of_zero_le hy.1
  have hly := hl.2 k y hk
  rw [Int.toNat_natCast] at hly
  have h1 : dg nb S y ≤ dg nb (o.drop (k + 1)) y := dg_sub fun u hu hS' => by
    have h2 := hdr u hS' (hall u hS')
    rw [drop_at hk, List.mem_cons] at h2
    rcases h2 with rfl | h2
    · exact absurd hu (hirr _)
    · exact h2
  have h3 := maxL_ge (getD_mem (l := ls) (i := y) (by rw [hl.1]; omega))
  omega
/-- Along the order of the cores no node has more neighbours behind it than its number. -/
theorem order_le {nb : Int → List Int} {n : Nat} {ns o ls : List Int} (hn : IsNums nb n ns) (hp : PS nb n o) (hol : o.length = n) (hl : IsLater nb n o ls) : maxL ls ≤ maxL ns := by
  have hr := ps_range hp
  have hper : Per o n := ⟨hol, hr.1, hr.2⟩
  refine maxL_le (maxL_nonneg _) fun x hx => ?_
  obtain ⟨v, hv, rfl⟩ := List.getElem_of_mem hx
  have hv' : v < n := by rw [← hl.1]; exact hv
  obtain ⟨k, hk, hkv⟩ := List.getElem_of_mem (per_all hper hv')
  have hk' : o[k]? = some (v : Int) := by rw [List.getElem?_eq_getElem hk, hkv]
  have hlv := hl.2 k v hk'
  rw [Int.toNat_natCast, List.getD_eq_getElem?_getD, List.getElem?_eq_getElem hv] at hlv
  simp only [Option.getD_some] at hlv
  have hb := hp k v hk'
  have hin : inC nb n (dg nb (rst n (o.take k)) v) v := ⟨rst n (o.take k), hb.1, fun u hu => ⟨(mem_rst.1 hu).1.1, (mem_rst.1 hu).1.2, by
    have := hb.2 u hu
    unfold bef at this
    omega⟩⟩
  have hmono : dg nb (o.drop (k + 1)) v ≤ dg nb (rst n (o.take k)) v := dg_mono fun u hu => by
    refine mem_rst.2 ⟨hr.2 u (List.mem_of_mem_drop hu), fun hu' => ?_⟩
    have hnd : (o.take k ++ o.drop k).Nodup := by rw [List.take_append_drop]; exact hr.1
    rw [drop_at hk'] at hnd
    exact (List.nodup_append.1 hnd).2.2 u hu' u (by simp [hu]) rfl
  have hns := hn.2 v hv'
  have h5 : (dg nb (rst n (o.take k)) v : Int) ≤ ns.getD v 0 := by
    by_cases h : (dg nb (rst n (o.take k)) v : Int) ≤ ns.getD v 0
    · exact h
    · exact absurd (inC_mono hin (by omega)) hns.2.2
  have h6 := maxL_ge (getD_mem (l := ns) (i := v) (by rw [hn.1]; exact hv'))
  omega
end Go.Proofs.YtdibfecejgjfmaaGreatDoor
