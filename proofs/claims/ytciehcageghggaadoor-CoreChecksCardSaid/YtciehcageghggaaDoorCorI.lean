/- Package core, ninth part: Degeneracy and Core. -/
import Derived.Test.YtciehcageghggaaDoorCorH
import Derived.Test.YtciehcageghggaaDoorRCoC
set_option linter.unusedVariables false
namespace Go.Proofs.YtciehcageghggaaDoor
open Go.RowKit CoBit

/-- The first j nodes whose number is at least K. -/
def atL (ns : List Int) (K : Int) (j : Nat) : List Int := (rng j).filter fun x => decide (K ≤ ns.getD x.toNat 0)
theorem atL_step {ns : List Int} {K y : Int} {j : Nat} (h : ns[j]? = some y) : atL ns K (j + 1) = if K ≤ y then atL ns K j ++ [(j : Int)] else atL ns K j := by
  unfold atL
  rw [rng_succ, List.filter_append]
  have : ns.getD (j : Int).toNat 0 = y := by rw [Int.toNat_natCast, getD_at h]
  by_cases hk : K ≤ y
  · rw [if_pos hk, List.filter_cons, if_pos (by rw [this]; exact decide_eq_true hk)]; rfl
  · rw [if_neg hk, List.filter_cons, if_neg (by rw [this]; exact fun e => hk (of_decide_eq_true e))]; simp
theorem atL_length (ns : List Int) (K : Int) (j : Nat) : (atL ns K j).length ≤ j := Nat.le_trans (List.length_filter_le _ _) (by rw [rng_length]; exact Nat.le_refl _)
theorem atL_core {nb : Int → List Int} {n : Nat} {ns : List Int} {K : Int} (h : IsNums nb n ns) : Vld (atL ns K n) n ∧ ∀ v, v ∈ atL ns K n ↔ inC nb n K v := by
  refine ⟨vld_filter (rng_vld n) _, fun v => ?_⟩
  unfold atL
  rw [List.mem_filter, mem_rng, decide_eq_true_eq]
  constructor
  · rintro ⟨h1, h2⟩
    obtain ⟨i, rfl⟩ := Int.eq_ofNat_of_zero_le h1.1
    rw [Int.toNat_natCast] at h2
    exact inC_mono (h.2 i (by omega)).2.1 h2
  · intro hin
    have h1 := inC_range hin
    refine ⟨h1, ?_⟩
    obtain ⟨i, rfl⟩ := Int.eq_ofNat_of_zero_le h1.1
    rw [Int.toNat_natCast]
    by_cases hk : K ≤ ns.getD i 0
    · exact hk
    · exact absurd (inC_mono hin (by omega)) (h.2 i (by omega)).2.2

set_option maxRecDepth 100000 in
set_option maxHeartbeats 1000000 in
theorem cDegeneracy_any (A : Option Addr) (m c : Nat) (n : Int) (es : List (Int × Int)) (w : World) (hT : Tab w) (h : RE w A m es) (hm : m ≤ 68719476736) :
    Calls Tryd.prog 24 #[.agg #[.int .i64 n, .slice A m c]] w fun e w' => ∃ l, e = .returned (.tuple #[.int .i64 (maxL l), .int .i64 (chkG n es)]) ∧ NumsL n es l ∧ Below w.heap.size w w' := by
  go_enter Tryd.func24, Tryd.ntmps24
  go_wp2_with fail
  refine (cNumbers_any A m c n es _ (hT.alloc _) (h.alloc _) hm).mono ?_
  rintro e w1 ⟨l, ⟨A1, n1, c1, rfl, hn1, hr1, hb1, hf1⟩, hl⟩
  have hb0 : Below w.heap.size w w1 := ((Below.refl _ _).alloc (Nat.le_refl _) _).trans (hb1.mono (by simp))
  have hbig : n1 ≤ 64 := by
    have := hr1.len
    by_cases hz : chkG n es = 0
    · have h2 := (hl.1 hz).1
      have h3 := chkG_zero hz
      omega
    · rw [hl.2 hz] at this; simp at this; omega
  generalize hzz : chkG n es = z at *
  replace hzz := Lib.hid hzz
  replace hl := Lib.hid hl
  have hlen := Lib.hid hr1.len
  clear hb1 hf1
  go_wp2_with fail
  go_loop [6, 16] (fun v i => ∃ (k : Nat) (x : Int), k ≤ n1 ∧ i = .int .i64 k ∧ v = .int .i64 x ∧ Hid (x = maxL (l.take k))) (fun _ i => n1 - (intOf i).toNat)
  case atStart => exact ⟨0, 0, Nat.zero_le _, rfl, rfl, Lib.hid rfl⟩
  case round =>
    obtain ⟨k, x, hk, rfl, rfl, hx⟩ := hrel
    by_cases hlt : k < n1
    · obtain ⟨ad, y, rfl, hy, hcy⟩ := hr1.get hlt
      have hst := maxL_take hy.out
      rw [← hx.out] at hst
      replace hst := Lib.hid hst
      have hmx : (if x < y then y else x) = max x y := by split <;> omega
      go_wp2_with fail
      all_goals go_round
      case rel => exact ⟨k + 1, _, by omega, by go_num, by first | rfl | rw [hmx], Lib.hid (by first | exact hst.out.symm | (rw [hst.out]; omega))⟩
      case measure => simp [intOf]; omega
    · have hfin : x = maxL l := by
        rw [hx.out, List.take_of_length_le (by rw [hlen.out]; omega)]
      replace hfin := Lib.hid hfin
      go_wp2_with fail
      go_ret2
      exact ⟨l, by rw [← hfin.out, hzz.out]; rfl, hl.out, hb0⟩

set_option maxRecDepth 100000 in
set_option maxHeartbeats 1000000 in
theorem cCore_any (A : Option Addr) (m c : Nat) (n K : Int) (es : List (Int × Int)) (w : World) (hT : Tab w) (h : RE w A m es) (hm : m ≤ 68719476736) :
    Calls Tryd.prog 27 #[.agg #[.int .i64 n, .slice A m c], .int .i64 K] w fun e w' => ∃ l, RetL w l (chkG n es) e w' ∧ CoreL n es K l := by
  go_enter Tryd.func27, Tryd.ntmps27
  go_wp2_with fail
  refine (cNumbers_any A m c n es _ (hT.alloc _) (h.alloc _) hm).mono ?_
  rintro e w1 ⟨l, ⟨A1, n1, c1, rfl, hn1, hr1, hb1, hf1⟩, hl⟩
  have hb0 : Below w.heap.size w w1 := ((Below.refl _ _).alloc (Nat.le_refl _) _).trans (hb1.mono (by simp))
  have hbig : n1 ≤ 64 := by
    have := hr1.len
    by_cases hz : chkG n es = 0
    · have h2 := (hl.1 hz).1
      have h3 := chkG_zero hz
      omega
    · rw [hl.2 hz] at this; simp at this; omega
  have hcl : CoreL n es K (atL l K n1) := by
    have hlen := hr1.len
    refine ⟨fun hz => ?_, fun hz => ?_⟩
    · obtain ⟨z0, _, _⟩ := chkG_zero hz
      obtain ⟨n, rfl⟩ := Int.eq_ofNat_of_zero_le z0
      have h2 := hl.1 hz
      have h3 : n1 = n := by have := h2.1; simp at this; omega
      rw [h3]
      exact atL_core h2
    · have h2 := hl.2 hz
      rw [h2] at hlen
      simp at hlen
      rw [← hlen]; rfl
  generalize hzz : chkG n es = z at *
  replace hzz := Lib.hid hzz
  replace hcl := Lib.hid hcl
  have hs0 := hb0.size
  clear hb1 hf1 hl
  go_wp2_with fail
  go_loopw [8, 18] (fun v i wr => ∃ (k : Nat), k ≤ n1 ∧ i = .int .i64 k ∧ OI wr w1.heap.size v (atL l K k) ∧ Below w1.heap.size w1 wr) (fun _ i _ => n1 - (intOf i).toNat)
  case atStart => exact ⟨0, Nat.zero_le _, rfl, OI.nil_, Below.refl _ _⟩
  case round =>
    obtain ⟨k, hk, rfl, ho, hb⟩ := hrel
    have hs := hb.size
    by_cases hlt : k < n1
    · obtain ⟨ad, y, rfl, hy, hcy⟩ := (RI.below hr1 hb (Nat.le_refl _)).get hlt
      have hst := atL_step (K := K) hy.out
      have hal := atL_length l K k
      by_cases hky : K ≤ y
      · rw [if_pos hky] at hst
        replace hst := Lib.hid hst
        have hq : decide (K ≤ y) = true := by simpa using hky
        clear hky
        generalize atL l K k = L at *
        go_wp2_with (at_builtin; refine wpList_push rfl _ _ rfl rfl rfl (by simp) ho (by omega) hs ?_; intro v' w' ho' hb' hg')
        go_roundw
        case rel => exact ⟨k + 1, by omega, by go_num, by rw [hst.out]; exact ho', hb.trans hb'⟩
        case measure => simp [intOf]; omega
      · rw [if_neg hky] at hst
        replace hst := Lib.hid hst
        have hq : decide (K ≤ y) = false := by simpa using hky
        clear hky
        go_wp2_with fail
        go_roundw
        case rel => exact ⟨k + 1, by omega, by go_num, by rw [hst.out]; exact ho, hb⟩
        case measure => simp [intOf]; omega
    · have hfin : ∃ l, RetL w l (chkG n es) (.returned (.tuple #[u8, .int .i64 z])) wr ∧ CoreL n es K l := by
        rw [hzz.out]
        have hkk : k = n1 := by omega
        subst hkk
        obtain ⟨A5, n5, c5, rfl, hn5, hc5, _, hr5⟩ := ho.form
        exact ⟨_, ⟨A5, n5, c5, rfl, hc5, hr5, hb0.trans (hb.mono hs0), (ho.fresh hn5).mono hs0⟩, hcl.out⟩
      replace hfin := Lib.hid hfin
      clear ho hb
      go_wp2_with fail
      go_ret2
      exact hfin.out
end Go.Proofs.YtciehcageghggaaDoor
