/- Printed by merge.py from LgtA, AwkM, PeeJ, OwnB, PrdJ. -/
import Derived.Test.YtdibfecejgjfmaaGreatDoorGraB
import Derived.Test.YtdibfecejgjfmaaGreatDoorSetB
import Derived.Test.YtdibfecejgjfmaaGreatDoorSma
import Derived.Test.YtdibfecejgjfmaaGreatDoorCorH
import Derived.Test.YtdibfecejgjfmaaGreatDoorRCoD
import Derived.Test.YtdibfecejgjfmaaGreatDoorPeeI
import Derived.RangeFuncNested
import Derived.RangeFuncBound
import Derived.RangeFuncCalls
import Derived.RangeFuncLeaves
import Derived.RangeFuncBox
import Derived.RangeFuncFrom
import Derived.RangeFuncWrites
import Derived.Shelf.Abstract
import Derived.Shelf.RegionOpen
import Derived.WalkKit
import Derived.OwnWalkIn
import Derived.TacticsInMore
import Derived.LoopNIn
import Derived.LoopIn
import Derived.Test.YtdibfecejgjfmaaGreatDoorMem
import Derived.Test.YtdibfecejgjfmaaGreatDoorPrdI
import Derived.Test.YtdibfecejgjfmaaGreatDoorMakC
/- Chapter 20: light, Same of equal peelings. -/
set_option linter.unusedVariables false
set_option linter.unusedSimpArgs false
namespace Go.Proofs.YtdibfecejgjfmaaGreatDoor
open Go.RowKit
def lgt (n : Int) (m : Nat) (es : List (Int × Int)) : Bool := decide (m ≤ 40 ∧ (n ≤ 12 ∨ chkG n es ≠ 0))
set_option maxHeartbeats 1000000 in
theorem light20_any (A : Option Addr) (m c : Nat) (n : Int) (es : List (Int × Int)) (w : World) (h : RE w A m es) (hm : m ≤ 1152921504606846976) :
    Calls Tryz.prog 4 #[.agg #[.int .i64 n, .slice A m c]] w fun e w' => e = .returned (.bool (lgt n m es)) ∧ Below w.heap.size w w' := by
  have hb0 : Below w.heap.size w (w.alloc (.cells #[.int .i64 n, .slice A m c] 24)) := (Below.refl _ w).alloc (Nat.le_refl _) _
  by_cases h40 : m ≤ 40
  · have q0 : decide ((m : Int) ≤ 40) = true := by simp; omega
    have kck := fun w h => rcheck_any A m c n es w h (by omega)
    by_cases h12 : n ≤ 12
    · have hv : lgt n m es = true := decide_eq_true ⟨h40, .inl h12⟩
      rw [hv]
      have q1 : decide (n ≤ 12) = true := decide_eq_true h12
      clear hv
      go_enter Tryz.func4, Tryz.ntmps4
      go_wp2_with fail
      go_ret
      exact ⟨rfl, hb0⟩
    · have q1 : decide (n ≤ 12) = false := decide_eq_false h12
      have hv : lgt n m es = decide (chkG n es ≠ 0) := by
        unfold lgt
        by_cases hz : chkG n es = 0
        · rw [decide_eq_false (fun h => h.2.elim h12 (fun h => h hz)), decide_eq_false (fun h => h hz)]
        · rw [decide_eq_true ⟨h40, .inr hz⟩, decide_eq_true hz]
      rw [hv]
      have hv2 : decide (chkG n es ≠ 0) = (chkG n es != 0) := by
        by_cases hz : chkG n es = 0
        · rw [hz]; rfl
        · rw [decide_eq_true hz]; exact (bne_iff_ne.2 hz).symm
      rw [hv2]
      generalize chkG n es = Q at *
      replace kck := Lib.hid kck
      clear hv hv2
      go_enter Tryz.func4, Tryz.ntmps4
      go_wp2_with (first | (go_at_call 19; refine (kck.out _ (h.alloc _)).mono ?_; rintro e w1 ⟨rfl, hb1⟩) | fail)
      go_ret
      exact ⟨rfl, hb0.trans (hb1.mono (by simp))⟩
  · have q0 : decide ((m : Int) ≤ 40) = false := by simp; omega
    have hv : lgt n m es = false := decide_eq_false (fun h => h40 h.1)
    rw [hv]
    clear hv
    go_enter Tryz.func4, Tryz.ntmps4
    go_wp2_with fail
    go_ret
    exact ⟨rfl, hb0⟩
theorem same_eq (A A' : Option Addr) (n c n' c' : Nat) (xs : List Int) (w : World) (h : RI w A n xs) (hn : n ≤ 1099511627776) (h' : RI w A' n' xs) (hn' : n' ≤ 1099511627776) :
    Calls Tryz.prog 18 #[.slice A n c, .slice A' n' c'] w fun e w' => e = .returned (.bool true) ∧ ∃ q, w' = w.drewN q := by
  have h1 := same_any A A' n c n' c' xs xs w h hn h' hn'
  rwa [decide_eq_true rfl] at h1
set_option maxHeartbeats 1000000 in
theorem same20_any (A1 A2 A3 A4 : Option Addr) (n1 c1 n2 c2 n3 c3 n4 c4 : Nat) (o s : List Int) (N D : Int) (w : World) (h1 : RI w A1 n1 o) (h2 : RI w A2 n2 s) (h3 : RI w A3 n3 o) (h4 : RI w A4 n4 s) (b1 : n1 ≤ 1099511627776) (b2 : n2 ≤ 1099511627776) :
    Calls Tryz.prog 10 #[.agg #[.slice A1 n1 c1, .slice A2 n2 c2, .int .i64 N, .int .i64 D], .agg #[.slice A3 n3 c3, .slice A4 n4 c4, .int .i64 N, .int .i64 D]] w fun e w' => e = .returned (.bool true) ∧ Below w.heap.size w w' := by
  have b3 : n3 ≤ 1099511627776 := by have := h1.len; have := h3.len; omega
  have b4 : n4 ≤ 1099511627776 := by have := h2.len; have := h4.len; omega
  have k1 := fun w' (hb : Below w.heap.size w w') => same_eq A1 A3 n1 c1 n3 c3 o w' (h1.below hb (Nat.le_refl _)) b1 (h3.below hb (Nat.le_refl _)) b3
  have k2 := fun w' (hb : Below w.heap.size w w') => same_eq A2 A4 n2 c2 n4 c4 s w' (h2.below hb (Nat.le_refl _)) b2 (h4.below hb (Nat.le_refl _)) b4
  have hb0 : Below w.heap.size w ((w.alloc (.cells #[.slice A1 n1 c1, .slice A2 n2 c2, .int .i64 N, .int .i64 D] 35)).alloc (.cells #[.slice A3 n3 c3, .slice A4 n4 c4, .int .i64 N, .int .i64 D] 35)) := ((Below.refl _ w).alloc (Nat.le_refl _) _).alloc (by simp) _
  replace k1 := Lib.hid k1
  replace k2 := Lib.hid k2
  clear h1 h2 h3 h4
  go_enter Tryz.func10, Tryz.ntmps10
  go_wp2_with (first
    | (go_at_call 18; with_reducible refine (k1.out _ (by first | exact hb0 | exact below_drewN hb0 _)).mono ?_; rintro e wx ⟨rfl, q1, rfl⟩)
    | (go_at_call 18; with_reducible refine (k2.out _ (by first | exact hb0 | exact below_drewN hb0 _)).mono ?_; rintro e wx ⟨rfl, q2, rfl⟩)
    | fail)
  go_ret
  exact ⟨rfl, by first | exact below_drewN (below_drewN hb0 _) _ | exact below_drewN hb0 _⟩
end Go.Proofs.YtdibfecejgjfmaaGreatDoor

/- Package core, ninth part: Degeneracy and Core. -/
set_option linter.unusedVariables false
namespace Go.Proofs.YtdibfecejgjfmaaGreatDoor
open Go.RowKit CoBit

/-- The first j nodes whose number is at least K. -/
def atL (ns : List Int) (K : Int) (j : Nat) : List Int := (rng j).filter fun x => decide (K ≤ ns.getD x.toNat 0)
theorem atL_step {ns : List Int} {K y : Int} {j : Nat} (h : ns[j]? = some y) : atL ns K (j + 1) = if K ≤ y then atL ns K j ++ [(j : Int)] else atL ns K j := by
  unfold atL
  rw [rng_succ, List.filter_append]
  have : ns.getD (j : Int).toNat 0 = y := by rw [Int.toNat_natCast, getD_at h]
  by_cases hk : K ≤ y
  · rw [if_pos hk, List.filter_cons, if_pos (by rw [this]; exact decide_eq_true hk)]; rfl
  · rw [if_neg hk, List.filter_cons, if_neg (by rw [this]; exact fun e => hk (of_decide_eq_true e))]; simp
theorem atL_length (ns : List Int) (K : Int) (j : Nat) : (atL ns K j).length ≤ j := Nat.le_trans (List.length_filter_le _ _) (by rw [rng_length]; exact Nat.le_refl _)
theorem atL_core {nb : Int → List Int} {n : Nat} {ns : List Int} {K : Int} (h : IsNums nb n ns) : Vld (atL ns K n) n ∧ ∀ v, v ∈ atL ns K n ↔ inC nb n K v := by
  refine ⟨vld_filter (rng_vld n) _, fun v => ?_⟩
  unfold atL
  rw [List.mem_filter, mem_rng, decide_eq_true_eq]
  constructor
  · rintro ⟨h1, h2⟩
    obtain ⟨i, rfl⟩ := Int.eq_ofNat_of_zero_le h1.1
    rw [Int.toNat_natCast] at h2
    exact inC_mono (h.2 i (by omega)).2.1 h2
  · intro hin
    have h1 := inC_range hin
    refine ⟨h1, ?_⟩
    obtain ⟨i, rfl⟩ := Int.eq_ofNat_of_zero_le h1.1
    rw [Int.toNat_natCast]
    by_cases hk : K ≤ ns.getD i 0
    · exact hk
    · exact absurd (inC_mono hin (by omega)) (h.2 i (by omega)).2.2

end Go.Proofs.YtdibfecejgjfmaaGreatDoor

namespace Go.Proofs.YtdibfecejgjfmaaGreatDoor

def hungE : List (Int × Int) := [(0, 1), (0, 2), (1, 2), (2, 3)]
theorem hung_chk : chkG 4 hungE = 0 := by decide +kernel
theorem hung_nb : nbG 4 hungE 0 = [1, 2] ∧ nbG 4 hungE 1 = [0, 2] ∧ nbG 4 hungE 2 = [0, 1, 3] ∧ nbG 4 hungE 3 = [2] := by decide +kernel
theorem inC_le {nb : Int → List Int} {n k v : Int} (h : inC nb n k v) : k ≤ ((nb v).length : Int) := by
  obtain ⟨S, hv, hS⟩ := h
  have h1 := (hS v hv).2.2
  have h2 : dg nb S v ≤ (nb v).length := List.length_filter_le _ _
  omega
theorem hung_not (v : Int) : ¬ inC (nbG 4 hungE) 4 3 v := by
  obtain ⟨n0, n1, n2, n3⟩ := hung_nb
  have k0 : ¬ inC (nbG 4 hungE) 4 3 0 := fun h => by have := inC_le h; rw [n0] at this; simp at this
  have k1 : ¬ inC (nbG 4 hungE) 4 3 1 := fun h => by have := inC_le h; rw [n1] at this; simp at this
  have k3 : ¬ inC (nbG 4 hungE) 4 3 3 := fun h => by have := inC_le h; rw [n3] at this; simp at this
  have hall : ∀ u, inC (nbG 4 hungE) 4 3 u → u ∈ [(2 : Int)] := by
    intro u hu
    have hr := inC_range hu
    have : u = 0 ∨ u = 1 ∨ u = 2 ∨ u = 3 := by omega
    rcases this with rfl | rfl | rfl | rfl
    · exact absurd hu k0
    · exact absurd hu k1
    · simp
    · exact absurd hu k3
  intro h
  have hv := hall v h
  simp at hv
  subst hv
  have := inC_dg h hall
  have h2 : dg (nbG 4 hungE) [2] 2 = 0 := by decide +kernel
  omega
theorem hung_nums : IsNums (nbG 4 hungE) 4 [2, 2, 2, 1] := by
  refine ⟨rfl, fun v hv => ?_⟩
  have hs : ∀ u ∈ [(0 : Int), 1, 2], 0 ≤ u ∧ u < 4 ∧ 2 ≤ (dg (nbG 4 hungE) [0, 1, 2] u : Int) := by decide +kernel
  have hs3 : ∀ u ∈ [(2 : Int), 3], 0 ≤ u ∧ u < 4 ∧ 1 ≤ (dg (nbG 4 hungE) [2, 3] u : Int) := by decide +kernel
  have : v = 0 ∨ v = 1 ∨ v = 2 ∨ v = 3 := by omega
  rcases this with rfl | rfl | rfl | rfl
  · exact ⟨by decide, ⟨[0, 1, 2], by decide, hs⟩, hung_not _⟩
  · exact ⟨by decide, ⟨[0, 1, 2], by decide, hs⟩, hung_not _⟩
  · exact ⟨by decide, ⟨[0, 1, 2], by decide, hs⟩, hung_not _⟩
  · refine ⟨by decide, ⟨[2, 3], by decide, hs3⟩, fun h => ?_⟩
    have := inC_le h
    have h3 := hung_nb.2.2.2
    rw [show ((3 : Nat) : Int) = 3 from rfl, h3] at this
    simp at this
instance (nb : Int → List Int) (L : List Int) (v w : Int) : Decidable (bef nb L v w) := by unfold bef; infer_instance
instance (nb : Int → List Int) (L : List Int) (v : Int) : Decidable (isBest nb L v) := by unfold isBest; infer_instance
theorem hung_ps : PS (nbG 4 hungE) 4 [3, 0, 1, 2] := by
  intro i v hv
  have hi : i < 4 := (List.getElem?_eq_some_iff.1 hv).1
  have : i = 0 ∨ i = 1 ∨ i = 2 ∨ i = 3 := by omega
  rcases this with rfl | rfl | rfl | rfl
  all_goals
    simp at hv
    subst hv
    decide +kernel
theorem hung_ok : okTo (nbG 4 hungE) [2, 2, 2, 1] [3, 0, 1, 2] 4 := by
  intro i v _ hv
  have hi : i < 4 := (List.getElem?_eq_some_iff.1 hv).1
  have : i = 0 ∨ i = 1 ∨ i = 2 ∨ i = 3 := by omega
  rcases this with rfl | rfl | rfl | rfl
  all_goals
    simp at hv
    subst hv
    refine ⟨fun u h0 hu => ?_, by decide +kernel, by decide +kernel⟩
    simp at hu h0
    try subst hu
    try decide
theorem hung_ord : OrdI [3, 0, 1, 2] 4 := ordI_per.2 ⟨rfl, by decide, by decide⟩
theorem hung_isChk {x : Int} (h : IsChk 4 hungE [2, 2, 2, 1] [3, 0, 1, 2] x) : x = 0 := by
  rcases h.2.2 hung_chk rfl hung_ord with h | h
  · exact h.1
  · exact absurd hung_ok h.2
theorem hung_numsL {l : List Int} (h : NumsL 4 hungE l) : l = [2, 2, 2, 1] := nums_unique (h.1 hung_chk) hung_nums
theorem hung_isOrd {o : List Int} (h : IsOrd 4 hungE o) : o = [3, 0, 1, 2] := ps_unique (h.1 hung_chk).1 hung_ps (h.1 hung_chk).2
end Go.Proofs.YtdibfecejgjfmaaGreatDoor

/- The example of chapter 20: awake. -/
set_option linter.unusedVariables false
set_option linter.unusedSimpArgs false
namespace Go.Proofs.YtdibfecejgjfmaaGreatDoor
open Go.RowKit CoBit CoRat Rt

theorem Blk.rds {w : World} {g : Nat} {t : TypeId} {cs : Array Value} {xs : List Value} {n size : Nat} (h : Blk w g t cs) (hx : cs.toList = xs) (hl : xs.length = n * size) : Reads w w.heap.size size (some ⟨g, 0, none⟩) n xs := by
  refine ⟨by first | exact hl | omega, fun _ => ⟨_, rfl, h.lt, fun j u hu => ?_⟩⟩
  have hc := Blk.cell h j
  have : ((⟨g, 0, none⟩ : Addr).add j) = ⟨g, j, none⟩ := by unfold Addr.add; split <;> simp_all
  rw [this, hc]
  subst hx
  simpa using hu
theorem hung_rec : recK 4 hungE [3, 0, 1, 2] 4 = (15, 1, 1) := by decide +kernel
theorem hung_set : bset 15 = [0, 1, 2, 3] := by decide +kernel
theorem hung_per : Per [3, 0, 1, 2] 4 := ⟨rfl, by decide, by decide⟩
theorem hung_later : IsLater (nbG 4 hungE) 4 [3, 0, 1, 2] [2, 1, 0, 1] := by
  refine ⟨rfl, fun i v hv => ?_⟩
  have hi : i < 4 := (List.getElem?_eq_some_iff.1 hv).1
  have : i = 0 ∨ i = 1 ∨ i = 2 ∨ i = 3 := by omega
  rcases this with rfl | rfl | rfl | rfl
  all_goals
    simp at hv
    subst hv
    decide +kernel

set_option maxRecDepth 100000 in
set_option maxHeartbeats 4000000 in
theorem awake20_any (w : World) (hT : Tab w) :
    Calls Tryz.prog 5 #[] w fun e w' => e = .returned (.bool true) ∧ Below w.heap.size w w' := by
  go_enter Tryz.func5, Tryz.ntmps5
  go_upto_region 2 with fail
  have E1 := Blk.new w 53 #[.int .i64 0, .int .i64 1, .int .i64 0, .int .i64 2, .int .i64 1, .int .i64 2, .int .i64 2, .int .i64 3]
  have E2 := E1.alloc (.cells #[.int .i64 4, .slice (some ⟨w.heap.size, 0, none⟩) 4 4] 24)
  have G2 : Blk ((w.alloc (.cells #[.int .i64 0, .int .i64 1, .int .i64 0, .int .i64 2, .int .i64 1, .int .i64 2, .int .i64 2, .int .i64 3] 53)).alloc (.cells #[.int .i64 4, .slice (some ⟨w.heap.size, 0, none⟩) 4 4] 24)) (w.heap.size + 1) 24 #[.int .i64 4, .slice (some ⟨w.heap.size, 0, none⟩) 4 4] := Blk.new' _ _ _ (by simp)
  have hb2 : Below w.heap.size w ((w.alloc (.cells #[.int .i64 0, .int .i64 1, .int .i64 0, .int .i64 2, .int .i64 1, .int .i64 2, .int .i64 2, .int .i64 3] 53)).alloc (.cells #[.int .i64 4, .slice (some ⟨w.heap.size, 0, none⟩) 4 4] 24)) := ((Below.refl _ _).alloc (Nat.le_refl _) _).alloc (by simp) _
  have hr2 : RE ((w.alloc (.cells #[.int .i64 0, .int .i64 1, .int .i64 0, .int .i64 2, .int .i64 1, .int .i64 2, .int .i64 2, .int .i64 3] 53)).alloc (.cells #[.int .i64 4, .slice (some ⟨w.heap.size, 0, none⟩) 4 4] 24)) (some ⟨w.heap.size, 0, none⟩) 4 hungE := Blk.rds E2 rfl rfl
  clear E1 E2
  generalize (w.alloc (.cells #[.int .i64 0, .int .i64 1, .int .i64 0, .int .i64 2, .int .i64 1, .int .i64 2, .int .i64 2, .int .i64 3] 53)).alloc (.cells #[.int .i64 4, .slice (some ⟨w.heap.size, 0, none⟩) 4 4] 24) = w2 at *
  obtain ⟨d0, d1⟩ := blkG G2
  have hs2 := hb2.size
  go_wp2_with fail
  refine (greedy_any (some ⟨w.heap.size, 0, none⟩) 4 4 4 hungE w2 (hT.keep hb2) hr2 (by omega) hung_chk (by omega)).mono ?_
  rintro e w3 ⟨o, hO, -, A3, n3, c3, A5, n5, c5, rfl, hc3, hc5, hr3, hr5, hb3, hf3, hf5⟩
  have ho := hung_isOrd hO
  subst ho
  rw [hung_rec] at hr5 ⊢
  simp only at hr5 ⊢
  rw [hung_set] at hr5
  have hfx : fixD 1 = 1 := rfl
  rw [hfx]
  obtain rfl : n3 = 4 := hr3.len.symm
  obtain rfl : n5 = 4 := hr5.len.symm
  have G3 := G2.below hb3 G2.lt
  have hr4 := hr2.below hb3 (Nat.le_refl _)
  have hb03 := hb2.trans (hb3.mono hs2)
  clear hO hb3 hf3 hf5 hr2 G2 d0 d1 hfx hb2
  go_upto_region 3 with fail
  have P4 := Blk.new w3 35 #[.slice A3 4 c3, .slice A5 4 c5, .int .i64 1, .int .i64 1]
  have G4 := G3.alloc (.cells #[.slice A3 4 c3, .slice A5 4 c5, .int .i64 1, .int .i64 1] 35)
  have hg4 := hr4.alloc (.cells #[.slice A3 4 c3, .slice A5 4 c5, .int .i64 1, .int .i64 1] 35)
  have ho4 := hr3.alloc (.cells #[.slice A3 4 c3, .slice A5 4 c5, .int .i64 1, .int .i64 1] 35)
  have hb4 := hb03.alloc hb03.size (.cells #[.slice A3 4 c3, .slice A5 4 c5, .int .i64 1, .int .i64 1] 35)
  clear G3 hr4 hr3 hr5 hb03
  generalize w3.alloc (.cells #[.slice A3 4 c3, .slice A5 4 c5, .int .i64 1, .int .i64 1] 35) = w4 at *
  generalize w3.heap.size = gp at *
  obtain ⟨d0, d1⟩ := blkG G4
  have p0 := Blk.cell P4 0
  simp at p0
  go_wp2_with fail
  refine (plimit_any (some ⟨w.heap.size, 0, none⟩) 4 4 4 hungE A3 4 c3 [3, 0, 1, 2] w4 hg4 (by omega) ho4 hc3 (by omega) hung_chk (by omega) hung_per).mono ?_
  rintro e w5 ⟨ls, rfl, hL, hb5⟩
  obtain rfl := later_unique hung_per hL hung_later
  have hmx : maxL [2, 1, 0, 1] = 2 := by decide
  rw [hmx]
  have P5 := P4.below hb5 P4.lt
  have ho5 := RI.below ho4 hb5 (Nat.le_refl _)
  have hb05 := hb4.trans (hb5.mono hb4.size)
  clear hL hb5 hb4 ho4 hg4 P4 G4 d0 d1 p0 hmx
  have p0 := Blk.cell P5 0
  have p1 := Blk.cell P5 1
  have p2 := Blk.cell P5 2
  have p3 := Blk.cell P5 3
  simp at p0 p1 p2 p3
  go_wp2_with fail
  have e1 : decide (([3, 0, 1, 2] : List Int) = [3, 0, 1, 2]) = true := by decide
  have hq1 : RI (w5.alloc (.cells #[.int .i64 3, .int .i64 0, .int .i64 1, .int .i64 2] 3)) (some ⟨w5.heap.size, 0, none⟩) 4 [3, 0, 1, 2] := (Blk.rds (Blk.new w5 3 #[.int .i64 3, .int .i64 0, .int .i64 1, .int .i64 2]) rfl rfl : Reads _ _ _ _ _ _)
  have hb06 := hb05.alloc hb05.size (.cells #[.int .i64 3, .int .i64 0, .int .i64 1, .int .i64 2] 3)
  have ho6 := ho5.alloc (.cells #[.int .i64 3, .int .i64 0, .int .i64 1, .int .i64 2] 3)
  have ks := same_any A3 (some ⟨w5.heap.size, 0, none⟩) 4 c3 4 4 _ _ _ ho6 (by omega) hq1 (by omega)
  rw [e1] at ks
  refine ks.mono ?_
  rintro e w6 ⟨rfl, q, rfl⟩
  have P6 := Blk.drewN (P5.alloc (.cells #[.int .i64 3, .int .i64 0, .int .i64 1, .int .i64 2] 3)) q
  have hbz := below_drewN hb06 q
  clear ks hq1 ho6 ho5 hb06 hb05 P5 p0 p1 p2 p3 e1
  have p1 := Blk.cell P6 1
  have p2 := Blk.cell P6 2
  have p3 := Blk.cell P6 3
  simp at p1 p2 p3
  go_wp2_with fail
  go_ret
  exact ⟨rfl, hbz⟩
end Go.Proofs.YtdibfecejgjfmaaGreatDoor

/- Ranges over a function whose iterator keeps state of its own in cells: the law; what stays but for some blocks. -/
set_option linter.unusedVariables false
set_option linter.unusedSimpArgs false
namespace Go.Proofs.YtdibfecejgjfmaaGreatDoor.Pl
open Go.RowKit Go.Shelf

/-- All blocks but those of ex lie as they lay. -/
structure Same (ex : Nat → Prop) (W W' : World) : Prop where
  os : W'.os = W.os
  tape : W'.tape = W.tape
  output : W'.output = W.output
  size : W.heap.size ≤ W'.heap.size
  block : ∀ k, k < W.heap.size → ¬ ex k → W'.heap[k]? = W.heap[k]?
theorem Same.refl (ex : Nat → Prop) (W : World) : Same ex W W := ⟨rfl, rfl, rfl, Nat.le_refl _, fun _ _ _ => rfl⟩
theorem Same.trans {ex ex' : Nat → Prop} {A B C : World} (h : Same ex A B) (h' : Same ex' B C) (hx : ∀ k, k < A.heap.size → ex' k → ex k) : Same ex A C :=
  ⟨h'.os.trans h.os, h'.tape.trans h.tape, h'.output.trans h.output, Nat.le_trans h.size h'.size, fun k hk hn => (h'.block k (Nat.lt_of_lt_of_le hk h.size) (fun e => hn (hx k hk e))).trans (h.block k hk hn)⟩
theorem Same.of_below {b : Nat} {W W' : World} (h : Below b W W') (hb : W.heap.size ≤ b) (ex : Nat → Prop) : Same ex W W' := ⟨h.os, h.tape, h.output, h.size, fun k hk _ => h.block k (Nat.lt_of_lt_of_le hk hb)⟩
theorem Same.of_grown {W W' : World} {row : Option Nat} (h : W.grownBy W' row) : Same (fun k => row = some k) W W' := ⟨h.os, h.tape, h.output, h.size, fun k hk hn => h.block k hk (fun e => hn e.symm)⟩
theorem Same.mono {ex ex' : Nat → Prop} {W W' : World} (h : Same ex W W') (hx : ∀ k, k < W.heap.size → ex k → ex' k) : Same ex' W W' := ⟨h.os, h.tape, h.output, h.size, fun k hk hn => h.block k hk (fun e => hn (hx k hk e))⟩
theorem Same.drew {ex : Nat → Prop} {W W' : World} (h : Same ex W W') : Same ex W W'.drew := ⟨h.os, h.tape, h.output, h.size, h.block⟩
theorem Same.drewN {ex : Nat → Prop} {W W' : World} (h : Same ex W W') (n : Nat) : Same ex W (W'.drewN n) := ⟨h.os, h.tape, h.output, h.size, h.block⟩
theorem Same.alloc {ex : Nat → Prop} {W W' : World} (h : Same ex W W') (o : Obj) : Same ex W (W'.alloc o) := h.trans (Same.of_below ((Below.refl W'.heap.size W').alloc (Nat.le_refl _) o) (Nat.le_refl _) (fun _ => False)) (fun _ _ h => h.elim)
theorem Same.cell {ex : Nat → Prop} {W W' : World} (h : Same ex W W') {p : Addr} (hp : p.block < W.heap.size) (hx : ¬ ex p.block) {v : Value} (hv : W.cell? p = some v) : W'.cell? p = some v := (World.cell?_of_block (h.block p.block hp hx)).trans hv
theorem Same.below {ex : Nat → Prop} {b : Nat} {W W' : World} (h : Same ex W W') (hb : b ≤ W.heap.size) (hx : ∀ k, k < b → ¬ ex k) : Below b W W' := ⟨h.os, h.tape, h.output, h.size, fun k hk => h.block k (Nat.lt_of_lt_of_le hk hb) (hx k hk)⟩
theorem Same.blk {ex : Nat → Prop} {W W' : World} {g : Nat} {t : TypeId} {cs : Array Value} (h : Same ex W W') (hB : Blk W g t cs) (hg : ¬ ex g) : Blk W' g t cs := (h.block g hB.lt hg).trans hB
theorem Same.boxed {ex : Nat → Prop} {W W' : World} {g : Nat} {t : TypeId} {v : Value} (h : Same ex W W') (hB : Boxed W g t v) (hg : ¬ ex g) : Boxed W' g t v := (h.block g hB.lt hg).trans hB
theorem Same.set (W : World) (g i : Nat) (u : Value) : Same (fun k => k = g) W (W.setCell ⟨g, i, none⟩ u) :=
  ⟨rfl, rfl, rfl, by simp, fun k _ hk => Below.heap_setCell W ⟨g, i, none⟩ u k hk⟩
theorem Same.put (W : World) (l : Nat) (o : Obj) : Same (fun k => k = l) W (W.putObj l o) := (Same.of_grown (grownBy_putObj' W l o)).mono fun k _ h => by injection h with h; exact h.symm
theorem Same.oi {B : Nat} {v : Value} {xs : List Int} {ex : Nat → Prop} {W W' : World} (h : Same ex W W') (ho : OI W B v xs) (hg : ∀ k, v.ownBlock = some k → ¬ ex k) : OI W' B v xs := by
  obtain ⟨h1, h2 | ⟨g, cap, cur, e1, e2, e3, e4⟩⟩ := ho
  · exact ⟨h1, .inl h2⟩
  · have hlt : g < W.heap.size := by
      rcases Nat.lt_or_ge g W.heap.size with hlt | hge
      · exact hlt
      · rw [Array.getElem?_eq_none hge] at e3; cases e3
    subst e1
    exact ⟨h1, .inr ⟨g, cap, cur, rfl, e2, (h.block g hlt (hg g rfl)).trans e3, e4⟩⟩
theorem Same.ri {A : Option Addr} {n : Nat} {xs : List Int} {ex : Nat → Prop} {W W' : World} (h : Same ex W W') (hr : RI W A n xs) (hx : ∀ ad, A = some ad → 0 < n → ¬ ex ad.block) : RI W' A n xs :=
  ⟨hr.1, fun hp => by
    obtain ⟨ad, he, hb, hc⟩ := hr.2 hp
    exact ⟨ad, he, Nat.lt_of_lt_of_le hb h.size, fun j u hu => (World.cell?_of_block (h.block (ad.add j).block (by rw [block_of_add]; exact hb) (by rw [block_of_add]; exact hx ad he hp))).trans (hc j u hu)⟩⟩

/-- A slice of ints that is handed out. -/
structure Lst where
  A : Option Addr
  n : Nat
  c : Nat
  xs : List Int
/-- It reads, and lies in no block of O, nor below B. -/
def RO (B : Nat) (O : Nat → Prop) (x : Lst) (W : World) : Prop := RI W x.A x.n x.xs ∧ x.n ≤ x.c ∧ ∀ ad, x.A = some ad → 0 < x.n → ¬ O ad.block ∧ B ≤ ad.block ∧ ad.block < W.heap.size
/-- J abides what the iterator does in blocks of its own. -/
def AbO {β : Type} (B : Nat) (J : (Nat → Prop) → β → World → Prop) : Prop :=
  ∀ O O' s W W', J O s W → (∀ k, O k → B ≤ k) → Same O W W' → (∀ k, O' k → O k ∨ W.heap.size ≤ k) → J O' s W'
/-- The contract of an iterator's value. -/
def SeqO (m n0 : Nat) (g : Nat) (lb : Array Value) (S Sp : List Lst → Prop) (w : World) : Prop :=
  ∀ (l : Nat) (J Jx : (Nat → Prop) → List Lst → World → Prop) (W : World), Below w.heap.size w W → AbO W.heap.size J → AbO W.heap.size Jx →
    (∀ O pre x W0 W1, J O pre W0 → Same (fun _ => False) W0 W1 → (∀ k, O k → W.heap.size ≤ k ∧ k < W0.heap.size) → W.heap.size ≤ W0.heap.size → RO W.heap.size O x W1 → (∀ ad, x.A = some ad → 0 < x.n → W0.heap.size ≤ ad.block) → YieldAt Fence.wide (m - 1) Tryz.prog l #[.slice x.A x.n x.c] W1 fun e W' =>
      (e = .returned (.bool true) ∧ J O (pre ++ [x]) W' ∧ Same (fun k => ¬ (O k ∨ k < n0)) W1 W') ∨ (e = .returned (.bool false) ∧ Jx O (pre ++ [x]) W' ∧ Same (fun k => ¬ (O k ∨ k < n0)) W1 W')) →
    J (fun _ => False) [] W →
    CallsIn Fence.wide m Tryz.prog g (#[.func (.yield l) #[] #[]] ++ lb) W fun e W' => (∃ v, e = .returned v) ∧ ((∃ O xs, (∀ k, O k → W.heap.size ≤ k) ∧ S xs ∧ J O xs W') ∨ (∃ O pre, (∀ k, O k → W.heap.size ≤ k) ∧ Sp pre ∧ Jx O pre W'))

/-- How the body of a round may be left. -/
def postO (n0 : Nat) (O : Nat → Prop) (I : (Nat → Prop) → List Lst → World → Prop) (Ix : Code → (Nat → Prop) → List Lst → World → Prop) (xs : List Lst) (W : World) : Exit → Act → World → Prop
  | .normal, _, W' => Same (fun k => ¬ (O k ∨ k < n0)) W W' ∧ I O xs W'
  | .ret, _, W' => Same (fun k => ¬ (O k ∨ k < n0)) W W' ∧ Ix .ret O xs W'
  | .exit id, _, W' => Same (fun k => ¬ (O k ∨ k < n0)) W W' ∧ Ix (.exit id) O xs W'
  | .goto t, _, W' => Same (fun k => ¬ (O k ∨ k < n0)) W W' ∧ Ix (.goto t) O xs W'
  | .panic _, _, _ => False
  | .outgrown, _, _ => False

set_option maxHeartbeats 1000000 in
/-- The statement 'for x := range seq { .. }' over such an iterator. -/
theorem wpIn_rangeFunc_O {n : Nat} {g : Operand} {ps : Array Tmp} {assign body : Code} {Q : Exit → Act → World → Prop} {a : Act} {w : World}
    {gf : Nat} {lb : Array Value} (hg : a.eval g = .func (.func gf) #[] lb) (eg : ∀ args w, (callFunc gf args).run Tryz.prog w = .ok (.enter gf args) w)
    {n0 : Nat} {S Sp : List Lst → Prop} {w0 : World} (hseq : SeqO (n - 1) n0 gf lb S Sp w0) (hb0 : Below w0.heap.size w0 w) (hn0 : n0 ≤ w.heap.size) (hps : 1 = ps.size)
    (I : (Nat → Prop) → List Lst → World → Prop) (Ix : Code → (Nat → Prop) → List Lst → World → Prop) (hI : AbO w.heap.size I) (hIx : ∀ c, AbO w.heap.size (Ix c)) (h0 : I (fun _ => False) [] w) (a₁ : Lst → Act)
    (hassign : ∀ (l : Nat) (x : Lst) (W : World) (K : Act → World → Prop), K (a₁ x) W →
      assign.wpIn (Fence.wide.inRound l) (n - 1 - 1) Tryz.prog (Exit.then K (fun _ _ _ => False)) { tmps := (ps.zip #[.slice x.A x.n x.c]).foldl (fun t (p, v) => t.setIfInBounds p v) a.tmps, defers := [] } W)
    (hbody : ∀ (l : Nat) (O : Nat → Prop) (pre : List Lst) (x : Lst) (W0 W : World), I O pre W0 → Same O W0 W → (∀ k, O k → w.heap.size ≤ k ∧ k < W0.heap.size) → w.heap.size ≤ W0.heap.size → RO w.heap.size O x W → (∀ ad, x.A = some ad → 0 < x.n → W0.heap.size ≤ ad.block) → body.wpIn (Fence.wide.inRound l) (n - 1 - 1) Tryz.prog (postO n0 O I Ix (pre ++ [x]) W) (a₁ x) W)
    (hdone : ∀ (D : Nat) (O : Nat → Prop) (xs : List Lst) (W : World), O D → (∀ k, O k → w.heap.size ≤ k) → S xs → I O xs W → W.heap[D]? = some (.deferred (some [])) → Q .normal { a with defers := { target := .collected D, args := #[] } :: a.defers } W)
    (hstop : ∀ (D : Nat) (c : Code) (O : Nat → Prop) (pre : List Lst) (W : World), O D → (∀ k, O k → w.heap.size ≤ k) → Sp pre → Ix c O pre W → W.heap[D]? = some (.deferred (some [])) → c.wpIn Fence.wide n Tryz.prog Q { a with defers := { target := .collected D, args := #[] } :: a.defers } W) :
    (Code.rangeFunc g ps assign body).wpIn Fence.wide n Tryz.prog Q a w := by
  refine wpIn_rangeFunc ?_
  intro fn hfn
  rw [show Fence.wide.round = none from rfl]
  obtain ⟨rec, hrec⟩ : ∃ rec : LoopState → Option Code → Loop, rec = fun st pe => { state := st, pending := pe, fn, tmps := a.tmps, params := ps, assign, body, defers := w.heap.size } := ⟨_, rfl⟩
  obtain ⟨W1, hW1⟩ : ∃ W1, (w.alloc (.deferred (some []))).alloc (.loop (rec .ready none)) = W1 := ⟨_, rfl⟩
  have hL1 : W1.heap[w.heap.size + 1]? = some (.loop (rec .ready none)) := by
    rw [← hW1]; have := World.alloc_heap_new (w.alloc (.deferred (some []))) (.loop (rec .ready none)); rwa [World.size_alloc] at this
  have hK1 : W1.heap[w.heap.size]? = some (.deferred (some [])) := by
    rw [← hW1]; exact (Below.heap_alloc _ _ _ (by simp)).trans (World.alloc_heap_new w _)
  have hS1 : Same (fun _ => False) w W1 := by rw [← hW1]; exact ((Same.refl _ w).alloc _).alloc _
  have hz1 : W1.heap.size = w.heap.size + 1 + 1 := by rw [← hW1]; simp
  have hI1 : I (fun k => False ∨ k = w.heap.size ∨ k = w.heap.size + 1) [] W1 := hI _ _ _ _ _ h0 (fun _ h => h.elim) hS1 (fun k h => .inr (by rcases h with h | h | h <;> first | exact h.elim | omega))
  have hb1 : Below w0.heap.size w0 W1 := hb0.trans (hS1.below hb0.size (fun _ _ h => h))
  refine ⟨w.heap.size + 1, [{ target := .collected w.heap.size, args := #[] }], W1, { target := .fn (.func gf) lb, args := #[.func (.yield (w.heap.size + 1)) #[] #[]] }, W1, gf,
    #[.func (.yield (w.heap.size + 1)) #[] #[]] ++ lb, W1, ?_, ?_, ?_, ?_, fun h => (by cases h), ?_⟩
  · rw [← hW1, hrec]; exact run_enterLoop_outer _ _ _ _ _
  · simp only [resolve, hg]
    simp [go_sem]
  · intro f' hf'; trivial
  · simp [invoke, go_sem, eg]
  · have hput : ∀ (J : (Nat → Prop) → List Lst → World → Prop), AbO w.heap.size J → ∀ (O : Nat → Prop) s W o, (∀ k, O k → w.heap.size ≤ k) → O (w.heap.size + 1) → J O s W → J O s (W.putObj (w.heap.size + 1) o) :=
      fun J hJ O s W o hO h1 h => hJ O O s _ _ h hO ((Same.put W _ o).mono (fun k _ e => by rw [e]; exact h1)) (fun k hk => .inl hk)
    refine (hseq (w.heap.size + 1)
      (fun O pre W => I (fun k => O k ∨ k = w.heap.size ∨ k = w.heap.size + 1) pre W ∧ W.heap[w.heap.size + 1]? = some (.loop (rec .ready none)) ∧ W.heap[w.heap.size]? = some (.deferred (some [])))
      (fun O pre W => ∃ c, Ix c (fun k => O k ∨ k = w.heap.size ∨ k = w.heap.size + 1) pre W ∧ W.heap[w.heap.size + 1]? = some (.loop (rec .done (some c))) ∧ W.heap[w.heap.size]? = some (.deferred (some [])))
      W1 hb1 ?_ ?_ ?_ ⟨hI1, hL1, hK1⟩).mono ?_
    · rintro O O' s A B ⟨hs, hl, hk⟩ hO hsame hO'
      have hlt : w.heap.size + 1 < A.heap.size := (Array.getElem?_eq_some_iff.1 hl).1
      refine ⟨hI _ _ _ _ _ hs (fun k hk => ?_) (hsame.mono (fun _ _ h => .inl h)) (fun k hk => ?_), (hsame.block _ hlt (fun h => ?_)).trans hl, (hsame.block _ (by omega) (fun h => ?_)).trans hk⟩
      · rcases hk with hk | hk | hk
        · have := hO k hk; omega
        · omega
        · omega
      · rcases hk with hk | hk
        · rcases hO' k hk with h | h
          · exact .inl (.inl h)
          · exact .inr h
        · exact .inl (.inr hk)
      · have := hO _ h; omega
      · have := hO _ h; omega
    · rintro O O' s A B ⟨c, hs, hl, hk⟩ hO hsame hO'
      have hlt : w.heap.size + 1 < A.heap.size := (Array.getElem?_eq_some_iff.1 hl).1
      refine ⟨c, hIx c _ _ _ _ _ hs (fun k hk => ?_) (hsame.mono (fun _ _ h => .inl h)) (fun k hk => ?_), (hsame.block _ hlt (fun h => ?_)).trans hl, (hsame.block _ (by omega) (fun h => ?_)).trans hk⟩
      · rcases hk with hk | hk | hk
        · have := hO k hk; omega
        · omega
        · omega
      · rcases hk with hk | hk
        · rcases hO' k hk with h | h
          · exact .inl (.inl h)
          · exact .inr h
        · exact .inl (.inr hk)
      · have := hO _ h; omega
      · have := hO _ h; omega
    · rintro O pre x W0 W ⟨hi, hl0, hk0⟩ hs0 hO0 hsz hx hfr
      have hlt0 : w.heap.size + 1 < W0.heap.size := (Array.getElem?_eq_some_iff.1 hl0).1
      have hl := (hs0.block _ hlt0 (fun h => h)).trans hl0
      have hk := (hs0.block w.heap.size (Nat.lt_of_succ_lt hlt0) (fun h => h)).trans hk0
      have hO : ∀ k, O k → W1.heap.size ≤ k ∧ k < W.heap.size := fun k hk => ⟨(hO0 k hk).1, Nat.lt_of_lt_of_le (hO0 k hk).2 hs0.size⟩
      have hlt : w.heap.size + 1 < W.heap.size := (Array.getElem?_eq_some_iff.1 hl).1
      have hy := run_yield (P := Tryz.prog) (args := #[.slice x.A x.n x.c]) hl (by rw [hrec]; exact hps)
      rw [hrec] at hy
      refine ⟨fn, _, assign, body, hy, roundIn_of_wpIn hfn (hassign _ x W _ ⟨_, run_beginRound hl (by rw [hrec]), ?_⟩)⟩
      have hl2 : (W.putObj (w.heap.size + 1) (.loop { rec .ready none with state := .busy })).heap[w.heap.size + 1]? = some (.loop { rec .ready none with state := .busy }) := World.putObj_heap_same hlt
      have hk2 : (W.putObj (w.heap.size + 1) (.loop { rec .ready none with state := .busy })).heap[w.heap.size]? = some (.deferred (some [])) := (World.putObj_heap_other (by omega)).trans hk
      have hO2 : ∀ k, (O k ∨ k = w.heap.size ∨ k = w.heap.size + 1) → w.heap.size ≤ k ∧ k < W.heap.size := fun k hk => by
        rcases hk with hk | hk | hk
        · have := hO k hk; omega
        · omega
        · omega
      have hsp := Same.put W (w.heap.size + 1) (.loop { rec .ready none with state := .busy })
      have hx2 : RO w.heap.size (fun k => O k ∨ k = w.heap.size ∨ k = w.heap.size + 1) x (W.putObj (w.heap.size + 1) (.loop { rec .ready none with state := .busy })) := by
        refine ⟨hsp.ri hx.1 (fun ad e hp h => ?_), hx.2.1, fun ad e hp => ⟨fun h => ?_, ?_, ?_⟩⟩
        · have := (hx.2.2 ad e hp).2.1; omega
        · have h1 := (hx.2.2 ad e hp).2.1
          rcases h with h | h | h
          · exact (hx.2.2 ad e hp).1 h
          · omega
          · omega
        · have := (hx.2.2 ad e hp).2.1; omega
        · exact Nat.lt_of_lt_of_le (hx.2.2 ad e hp).2.2 hsp.size
      refine wpIn_mono (hbody _ _ pre x W0 _ hi ((hs0.mono (fun _ _ h => h.elim)).trans hsp (fun k _ e => .inr (.inr e))) (fun k hk => ⟨(hO2 k hk).1, by rcases hk with hk | hk | hk; exact (hO0 k hk).2; omega; omega⟩) (by omega) hx2 hfr) ?_
      have fin : ∀ (jump : Option Code) (W3 : World), Same (fun k => ¬ ((O k ∨ k = w.heap.size ∨ k = w.heap.size + 1) ∨ k < n0)) (W.putObj (w.heap.size + 1) (.loop { rec .ready none with state := .busy })) W3 →
          (Instr.endRound (w.heap.size + 1) jump).run Tryz.prog W3 = .ok (.bool jump.isNone) (W3.putObj (w.heap.size + 1) (.loop (rec (if jump.isNone then .ready else .done) jump))) ∧
          W3.heap[w.heap.size + 1]? = some (.loop { rec .ready none with state := .busy }) ∧
          (W3.putObj (w.heap.size + 1) (.loop (rec (if jump.isNone then .ready else .done) jump))).heap[w.heap.size + 1]? = some (.loop (rec (if jump.isNone then .ready else .done) jump)) ∧
          (W3.putObj (w.heap.size + 1) (.loop (rec (if jump.isNone then .ready else .done) jump))).heap[w.heap.size]? = some (.deferred (some [])) := fun jump W3 hk3 => by
        have hl3 := (hk3.block _ (Nat.lt_of_lt_of_le hlt hsp.size) (fun h => h (.inl (.inr (.inr rfl))))).trans hl2
        have hk4 := (hk3.block w.heap.size (Nat.lt_of_lt_of_le (by omega) hsp.size) (fun h => h (.inl (.inr (.inl rfl))))).trans hk2
        have := run_endRound (P := Tryz.prog) jump hl3
        rw [hrec] at this ⊢
        exact ⟨this, by rw [hrec] at hl3; exact hl3, World.putObj_heap_same (Array.getElem?_eq_some_iff.1 hl3).1, (World.putObj_heap_other (by omega)).trans hk4⟩
      have back : ∀ (W3 : World) (o : Obj), Same (fun k => ¬ ((O k ∨ k = w.heap.size ∨ k = w.heap.size + 1) ∨ k < n0)) (W.putObj (w.heap.size + 1) (.loop { rec .ready none with state := .busy })) W3 → Same (fun k => ¬ (O k ∨ k < n0)) W (W3.putObj (w.heap.size + 1) o) := fun W3 o hk3 => by
        have hq : ∀ k, k = w.heap.size + 1 → ¬ (O k ∨ k < n0) := fun k e h => by
          rcases h with h | h
          · have := (hO k h).1; omega
          · omega
        exact ((hsp.mono (fun k _ e => hq k e)).trans hk3 (fun k _ h h' => h (h'.elim (fun h1 => .inl (.inl h1)) .inr))).trans (Same.put W3 _ o) (fun k _ e => hq k e)
      rintro e a3 W3 hp
      cases e with
      | normal =>
        obtain ⟨hk3, hi3⟩ := hp
        obtain ⟨hr, hl3, hl4, hk4⟩ := fin none W3 hk3
        exact ⟨_, _, hr, .inl ⟨rfl, ⟨hput I hI _ _ _ _ (fun k hk => (hO2 k hk).1) (.inr (.inr rfl)) hi3, hl4, hk4⟩, back _ _ hk3⟩⟩
      | ret =>
        obtain ⟨hk3, hi3⟩ := hp
        obtain ⟨hr, hl3, hl4, hk4⟩ := fin (some .ret) W3 hk3
        exact ⟨_, _, hr, .inr ⟨rfl, ⟨.ret, hput (Ix .ret) (hIx _) _ _ _ _ (fun k hk => (hO2 k hk).1) (.inr (.inr rfl)) hi3, hl4, hk4⟩, back _ _ hk3⟩⟩
      | exit id =>
        obtain ⟨hk3, hi3⟩ := hp
        obtain ⟨hr, hl3, hl4, hk4⟩ := fin (some (.exit id)) W3 hk3
        exact ⟨_, _, hr, .inr ⟨rfl, ⟨.exit id, hput (Ix (.exit id)) (hIx _) _ _ _ _ (fun k hk => (hO2 k hk).1) (.inr (.inr rfl)) hi3, hl4, hk4⟩, back _ _ hk3⟩⟩
      | goto t =>
        obtain ⟨hk3, hi3⟩ := hp
        obtain ⟨hr, hl3, hl4, hk4⟩ := fin (some (.goto t)) W3 hk3
        exact ⟨_, _, hr, .inr ⟨rfl, ⟨.goto t, hput (Ix (.goto t)) (hIx _) _ _ _ _ (fun k hk => (hO2 k hk).1) (.inr (.inr rfl)) hi3, hl4, hk4⟩, back _ _ hk3⟩⟩
      | panic ch => exact hp.elim
      | outgrown => exact hp.elim
    · have hOO : ∀ (O : Nat → Prop), (∀ k, O k → W1.heap.size ≤ k) → ∀ k, (O k ∨ k = w.heap.size ∨ k = w.heap.size + 1) → w.heap.size ≤ k := fun O hO k hk => by
        rcases hk with hk | hk | hk
        · have := hO k hk; omega
        · omega
        · omega
      rintro e W2 ⟨⟨v, rfl⟩, (⟨O, xs, hO, hS, hi, hl, hk⟩ | ⟨O, pre, hO, hSp, c, hi, hl, hk⟩)⟩
      · exact ⟨none, _, by have := run_endLoop (P := Tryz.prog) hl (by rw [hrec]; simp); rw [hrec] at this; exact this, hdone _ _ xs _ (.inr (.inl rfl)) (hOO O hO) hS (hput I hI _ _ _ _ (hOO O hO) (.inr (.inr rfl)) hi) ((World.putObj_heap_other (by omega)).trans hk)⟩
      · exact ⟨some c, _, by have := run_endLoop (P := Tryz.prog) hl (by rw [hrec]; simp); rw [hrec] at this; exact this, hstop _ c _ pre _ (.inr (.inl rfl)) (hOO O hO) hSp (hput (Ix c) (hIx c) _ _ _ _ (hOO O hO) (.inr (.inr rfl)) hi) ((World.putObj_heap_other (by omega)).trans hk)⟩
end Go.Proofs.YtdibfecejgjfmaaGreatDoor.Pl

/- The law PeelOrders. (Printed by genPrdJ.py.) -/
set_option linter.unusedVariables false
set_option linter.unusedSimpArgs false
namespace Go.Proofs.YtdibfecejgjfmaaGreatDoor.Pl
open Go.RowKit CoBit CoRat Rt Go.Proofs.YtdibfecejgjfmaaGreatDoor
theorem RE.same_ {A : Option Addr} {n : Nat} {es : List (Int × Int)} {ex : Nat → Prop} {W W' : World} (h : RE W A n es) (hs : Same ex W W') (hx : ∀ ad, A = some ad → 0 < n → ¬ ex ad.block) : RE W' A n es :=
  ⟨h.1, fun hp => by
    obtain ⟨ad, he, hb, hc⟩ := h.2 hp
    exact ⟨ad, he, Nat.lt_of_lt_of_le hb hs.size, fun j u hu => (World.cell?_of_block (hs.block (ad.add j).block (by rw [block_of_add]; exact hb) (by rw [block_of_add]; exact hx ad he hp))).trans (hc j u hu)⟩⟩
theorem RE.keptG_ {A : Option Addr} {n : Nat} {es : List (Int × Int)} {W W' : World} {r : Option Nat} (h : RE W A n es) (hs : W.grownBy W' r) (hx : ∀ ad, A = some ad → 0 < n → r ≠ some ad.block) : RE W' A n es := RE.same_ h (Same.of_grown hs) hx
theorem RI.keptG_ {A : Option Addr} {n : Nat} {es : List Int} {W W' : World} {r : Option Nat} (h : RI W A n es) (hs : W.grownBy W' r) (hx : ∀ ad, A = some ad → 0 < n → r ≠ some ad.block) : RI W' A n es := (Same.of_grown hs).ri h hx
theorem RE.blt_ {A : Option Addr} {n : Nat} {es : List (Int × Int)} {W : World} (h : RE W A n es) (hp : 0 < n) : ∀ ad, A = some ad → ad.block < W.heap.size := fun ad e => by
  obtain ⟨ad', e', hb, -⟩ := h.2 hp
  rw [e] at e'; injection e' with e'; subst e'; exact hb
theorem RI.blt_ {A : Option Addr} {n : Nat} {xs : List Int} {W : World} (h : RI W A n xs) (hp : 0 < n) : ∀ ad, A = some ad → ad.block < W.heap.size := fun ad e => by
  obtain ⟨ad', e', hb, -⟩ := h.2 hp
  rw [e] at e'; injection e' with e'; subst e'; exact hb
theorem Same.gg_ {gd : Nat} {W W' W2 : World} (h : Same (fun k => k = gd) W W') (h2 : W'.grownBy W2 (some gd)) : Same (fun k => k = gd) W W2 := h.trans (Same.of_grown h2) (fun k _ e => by injection e with e; exact e.symm)
theorem Same.bb_ {gd : Nat} {W W' W2 : World} {b : Nat} (h : Same (fun k => k = gd) W W') (h2 : Below b W' W2) (hb : W'.heap.size ≤ b) : Same (fun k => k = gd) W W2 := h.trans (Same.of_below h2 hb (fun k => k = gd)) (fun _ _ e => e)
/-- Two graphs, none in the deck. -/
def GL2 (w : World) (gl gd : Nat) : Prop := ∀ j, j < 2 → ∃ (n : Int) (A : Option Addr) (m c : Nat) (es : List (Int × Int)), w.cell? ⟨gl, j * 2, none⟩ = some (.int .i64 n) ∧ w.cell? ⟨gl, j * 2 + 1, none⟩ = some (.slice A m c) ∧ RE w A m es ∧ m ≤ 100 ∧ (∀ ad, A = some ad → 0 < m → ¬ ad.block = gd)
/-- Three lists. -/
def SL3 (w : World) (sl : Nat) : Prop := ∀ s, s < 3 → ∃ (A : Option Addr) (n c : Nat) (xs : List Int), w.cell? ⟨sl, s, none⟩ = some (.slice A n c) ∧ n ≤ c ∧ n ≤ 64 ∧ RI w A n xs
theorem pxO_len {err n : Int} {es : List (Int × Int)} {o : List Int} (h : err = 0 → o.length ≤ 64) : (pxO err o).length ≤ 64 := by
  unfold pxO
  split
  · rename_i h1; exact h h1
  · simp
theorem pxS_len (err n : Int) (es : List (Int × Int)) (o : List Int) : (pxS err n es o).length ≤ 64 := by
  unfold pxS
  split
  · exact bset_length _
  · simp
theorem spX_len (err : Int) (pl : List Int) (es : List (Int × Int)) : (spX err pl es).length ≤ es.length := by
  unfold spX splP
  split
  · simp
  · simp
attribute [local irreducible] wpQuiet in
set_option maxRecDepth 100000 in
set_option maxHeartbeats 40000000 in
theorem lawOrders_any (nr : Int) (Ar : Option Addr) (mr cr : Nat) (er : List (Int × Int)) (A1 : Option Addr) (m1 c1 : Nat) (ro : List Int) (A0 : Option Addr) (m0 c0 : Nat) (l : List Int) (w : World) (hT : Tab w) (hEr : RE w Ar mr er) (hmr : mr ≤ 1152921504606846976) (h1 : RI w A1 m1 ro) (hmc1 : m1 ≤ c1) (hm1 : m1 ≤ 1152921504606846976) (h0 : RI w A0 m0 l) (hmc : m0 ≤ c0) (hm0 : m0 ≤ 1152921504606846976) :
    Calls Tryz.prog 3 #[.agg #[.int .i64 nr, .slice Ar mr cr], .slice A1 m1 c1, .slice A0 m0 c0] w fun e w' => e = .returned (.bool true) ∧ Below w.heap.size w w' := by
  have kl := fun w h => light20_any Ar mr cr nr er w h hmr
  have ka := Lib.hid (fun w h => awake20_any w h)
  have hB1 : Below w.heap.size w (w.alloc (.cells #[.int .i64 nr, .slice Ar mr cr] 24)) := (Below.refl _ w).alloc (Nat.le_refl _) _
  have bR0 := Blk.new w 24 #[.int .i64 nr, .slice Ar mr cr]
  have hcase : (lgt nr mr er = false) ∨ (lgt nr mr er = true ∧ decide (60 < (m1 : Int)) = true) ∨ (lgt nr mr er = true ∧ decide (60 < (m1 : Int)) = false ∧ m1 ≤ 60) := by
    cases hgood : lgt nr mr er with
    | false => exact .inl rfl
    | true =>
      by_cases h60 : m1 ≤ 60
      · exact .inr (.inr ⟨rfl, by simp; omega, h60⟩)
      · exact .inr (.inl ⟨rfl, by simp; omega⟩)
  rcases hcase with hgood | ⟨hgood, h60⟩ | ⟨hgood, h60, hm60⟩
  · rw [hgood] at kl
    replace kl := Lib.hid kl
    clear hgood
    go_enter Tryz.func3, Tryz.ntmps3
    go_wp2_with (first
      | (go_at_call 4; refine (kl.out _ (hEr.alloc _)).mono ?_; rintro e w1 ⟨rfl, hb1⟩
         have hW1 : Below w.heap.size w w1 := hB1.trans (hb1.mono (by simp))
         have ka1 := Lib.hid (ka.out w1 (hT.keep hW1)))
      | (go_at_call 5; refine ka1.out.mono ?_; rintro e w2 ⟨rfl, hb2⟩
         have hWz : Below w.heap.size w w2 := hW1.trans (hb2.mono hW1.size))
      | fail)
    go_ret
    exact ⟨rfl, hWz⟩
  · rw [hgood] at kl
    replace kl := Lib.hid kl
    clear hgood
    go_enter Tryz.func3, Tryz.ntmps3
    go_wp2_with (first
      | (go_at_call 4; refine (kl.out _ (hEr.alloc _)).mono ?_; rintro e w1 ⟨rfl, hb1⟩
         have hW1 : Below w.heap.size w w1 := hB1.trans (hb1.mono (by simp))
         have ka1 := Lib.hid (ka.out w1 (hT.keep hW1)))
      | (go_at_call 5; refine ka1.out.mono ?_; rintro e w2 ⟨rfl, hb2⟩
         have hWz : Below w.heap.size w w2 := hW1.trans (hb2.mono hW1.size))
      | fail)
    go_ret
    exact ⟨rfl, hWz⟩
  · have hmr4 : mr ≤ 40 ∧ (nr ≤ 12 ∨ chkG nr er ≠ 0) := of_decide_eq_true (show decide (mr ≤ 40 ∧ (nr ≤ 12 ∨ chkG nr er ≠ 0)) = true from hgood)
    rw [hgood] at kl
    replace kl := Lib.hid kl
    clear hgood
    go_enter Tryz.func3, Tryz.ntmps3
    go_wp2_with (first
      | (go_at_call 4; refine (kl.out _ (hEr.alloc _)).mono ?_; rintro e w1 ⟨rfl, hb1⟩)
      | fail)
    have hW1 : Below w.heap.size w w1 := hB1.trans (hb1.mono (by simp))
    have bR := bR0.below hb1 bR0.lt
    have s1 := bR.lt
    have hArw : ∀ ad, Ar = some ad → 0 < mr → ad.block < w.heap.size := fun ad e hp => RE.blt_ hEr hp ad e
    have hA1w : ∀ ad, A1 = some ad → 0 < m1 → ad.block < w.heap.size := fun ad e hp => RI.blt_ h1 hp ad e
    have hEr1 := hEr.below hW1 (Nat.le_refl _)
    have h11 := h1.below hW1 (Nat.le_refl _)
    clear hb1 hB1 bR0 kl h60
    refine (new_any A0 m0 c0 l w1 (h0.below hW1 (Nat.le_refl _)) hmc hm0).mono ?_
    rintro e w2 ⟨rfl, hd2, hb2, hs2⟩
    have bR2 := bR.below hb2 bR.lt
    have hW2 : Below w.heap.size w w2 := hW1.trans (hb2.mono (by omega))
    have hEr2 := hEr1.below hb2 (Nat.le_refl _)
    have h12 := h11.below hb2 (Nat.le_refl _)
    have hd20 := hW1.size
    clear hb2 bR hEr1 h11
    generalize w1.heap.size = gd at *
    go_wp2_with fail
    refine (mkgraph_any gd 8 w2 hd2 (by omega)).mono ?_
    rintro e w3 ⟨n, es, A, m, c, rfl, hmcc, hr3, hf3, hsrt, hn7, hd3, hg3⟩
    have hlen : m ≤ 64 := by
      have h1 := srt_len hsrt
      have h2 := hr3.len
      have h3 : n * n ≤ 8 * 8 := Nat.mul_le_mul hn7 hn7
      omega
    have hz3 := hg3.size
    have hbg3 : Below gd w2 w3 := grown_is_below hg3 (Nat.le_refl _) (by omega)
    have hW3 : Below w.heap.size w w3 := hW2.trans (hbg3.mono (by omega))
    have bR3 := bR2.grown hg3 (by intro e; injection e with e; omega)
    have hEr3 := RE.keptG_ hEr2 hg3 (fun ad e hp h => by injection h with h; have := hArw ad e hp; omega)
    have h13 := RI.keptG_ h12 hg3 (fun ad e hp h => by injection h with h; have := hA1w ad e hp; omega)
    clear hEr2 h12 hW2 bR2 hg3 hbg3 hd2 hW1
    go_upto_region 5 with fail
    have bG4 := Blk.new w3 24 #[.int .i64 n, .slice A m c]
    have bR4 := bR3.alloc (.cells #[.int .i64 n, .slice A m c] 24)
    have hE4 := hr3.alloc (.cells #[.int .i64 n, .slice A m c] 24)
    have hEr4 := hEr3.alloc (.cells #[.int .i64 n, .slice A m c] 24)
    have h14 := h13.alloc (.cells #[.int .i64 n, .slice A m c] 24)
    have hd4 := hd3.alloc (.cells #[.int .i64 n, .slice A m c] 24)
    have hW4 := hW3.alloc hW3.size (.cells #[.int .i64 n, .slice A m c] 24)
    have hgg4 := bG4.lt
    have hgdlt := hd3.lt
    clear bR3 hr3 hEr3 h13 hd3 hW3
    generalize w3.alloc (.cells #[.int .i64 n, .slice A m c] 24) = w4 at *
    generalize w3.heap.size = gg at *
    obtain ⟨d0, d1⟩ := blkG bG4
    obtain ⟨d2, d3⟩ := blkG bR4
    have hgdA : ∀ ad, A = some ad → 0 < m → ¬ ad.block = gd := fun ad e hp => by have := hf3 ad e; omega
    have hgdR : ∀ ad, Ar = some ad → 0 < mr → ¬ ad.block = gd := fun ad e hp => by have := hArw ad e hp; omega
    have hgd1 : ∀ ad, A1 = some ad → 0 < m1 → ¬ ad.block = gd := fun ad e hp => by have := hA1w ad e hp; omega
    go_upto_region 6 with fail
    have hGL0 : GL2 (w4.alloc (.cells #[.int .i64 n, .slice A m c, .int .i64 nr, .slice Ar mr cr] 24)) w4.heap.size gd := by
      have hBk := Blk.new w4 24 #[.int .i64 n, .slice A m c, .int .i64 nr, .slice Ar mr cr]
      intro j hj
      have hjj : j = 0 ∨ j = 1 := by omega
      rcases hjj with rfl | rfl
      · exact ⟨n, A, m, c, es, hBk.cell 0, hBk.cell 1, hE4.alloc _, by omega, hgdA⟩
      · exact ⟨nr, Ar, mr, cr, er, hBk.cell 2, hBk.cell 3, hEr4.alloc _, by omega, hgdR⟩
    have h15 := h14.alloc (.cells #[.int .i64 n, .slice A m c, .int .i64 nr, .slice Ar mr cr] 24)
    have hd5 := hd4.alloc (.cells #[.int .i64 n, .slice A m c, .int .i64 nr, .slice Ar mr cr] 24)
    have hW5 := hW4.alloc hW4.size (.cells #[.int .i64 n, .slice A m c, .int .i64 nr, .slice Ar mr cr] 24)
    have hgl0 : w4.heap.size < (w4.alloc (.cells #[.int .i64 n, .slice A m c, .int .i64 nr, .slice Ar mr cr] 24)).heap.size := by simp
    have hgl : gd < w4.heap.size := hd4.lt
    clear hE4 hEr4 h14 hd4 hW4 bG4 bR4 d0 d1 d2 d3 hf3 hsrt hArw hgg4
    generalize w4.alloc (.cells #[.int .i64 n, .slice A m c, .int .i64 nr, .slice Ar mr cr] 24) = W0 at *
    generalize w4.heap.size = gl at *
    replace hGL0 := Lib.hid hGL0
    have hgdW : gd < W0.heap.size := by omega
    have hT0 := hT.below hW5 hT.lt
    have hTg : 0 < w.heap.size := hT.lt
    go_loopw [46] (fun i wr => ∃ k0 : Nat, k0 ≤ 2 ∧ i = .int .i64 k0 ∧ Same (fun k => k = gd) W0 wr ∧ Dk wr gd) (fun i _ => 2 - (intOf i).toNat)
    case atStart => exact ⟨0, by omega, rfl, Same.refl _ _, hd5⟩
    case round =>
      obtain ⟨k0, hk0, rfl, hsm, hdk⟩ := hrel
      have hszr := hsm.size
      have hWr : Below w.heap.size w wr := hW5.trans (hsm.below (by have := hW5.size; omega) (fun k hk h => by omega))
      by_cases hlt0 : k0 < 2
      -- B1
      · have i0 : (k0 : Int) < 2 := by omega
        obtain ⟨nx, Ax, mx, cx, ex, y0, y1, hEx0, hmx, hAx⟩ := hGL0.out k0 hlt0
        have z0 := hsm.cell (p := ⟨gl, k0 * 2, none⟩) hgl0 (by simp; omega) y0
        have z1 := hsm.cell (p := ⟨gl, k0 * 2 + 1, none⟩) hgl0 (by simp; omega) y1
        have hE := RE.same_ hEx0 hsm hAx
        have h1r := hsm.ri h15 hgd1
        have hTT := hT.below hWr hT.lt
        clear y0 y1 hEx0
        go_upto_region 8 with fail
        have bX := Blk.new wr 24 #[.int .i64 nx, .slice Ax mx cx]
        replace hE := hE.alloc (.cells #[.int .i64 nx, .slice Ax mx cx] 24)
        replace h1r := h1r.alloc (.cells #[.int .i64 nx, .slice Ax mx cx] 24)
        replace hdk := hdk.alloc (.cells #[.int .i64 nx, .slice Ax mx cx] 24)
        replace hsm := hsm.alloc (.cells #[.int .i64 nx, .slice Ax mx cx] 24)
        replace hTT : Tab (wr.alloc (.cells #[.int .i64 nx, .slice Ax mx cx] 24)) := hTT.below ((Below.refl wr.heap.size wr).alloc (Nat.le_refl _) _) hTT.lt
        clear z0 z1
        generalize hWa : wr.alloc (.cells #[.int .i64 nx, .slice Ax mx cx] 24) = wa at *
        clear hWa
        generalize hgx : wr.heap.size = gx at *
        have hXgd : some gx ≠ some gd := by intro e; injection e with e; omega
        clear hgx hWr hszr
        have kGp := Lib.hid (fun w hT h => pgreedy_all Ax mx cx nx ex w hT h (by omega))
        have kGr := Lib.hid (fun w h => rgreedy_all Ax mx cx nx ex w h (by omega))
        obtain ⟨x0, x1⟩ := blkG bX
        have kk := Lib.hid (kGp.out _ hTT hE)
        go_wp2_with fail
        refine kk.out.mono ?_
        clear kk x0 x1 kGp
        rintro e wb ⟨o1, hO1, Aa, na, ca, Ab, nb, cb, rfl, hca, hcb, ra, rb, hbn⟩
        replace bX := bX.below hbn bX.lt
        replace hE := RE.below hE hbn (Nat.le_refl _)
        replace h1r := RI.below h1r hbn (Nat.le_refl _)
        replace hTT := hTT.below hbn hTT.lt
        replace hdk := hdk.below hbn hdk.lt
        replace hsm := hsm.bb_ hbn (Nat.le_refl _)
        clear hbn
        replace hO1 := Lib.hid hO1
        generalize hq1 : pxO (chkG nx ex) o1 = X1 at *
        generalize hq2 : pxS (chkG nx ex) nx ex o1 = X2 at *
        generalize hq3 : pxN (chkG nx ex) nx ex o1 = X3 at *
        generalize hq4 : pxD (chkG nx ex) nx ex o1 = X4 at *
        have hqq := Lib.hid (And.intro hq1 (And.intro hq2 (And.intro hq3 hq4)))
        clear hq1 hq2 hq3 hq4
        go_upto_region 9 with fail
        have pA := Blk.new wb 35 #[.slice Aa na ca, .slice Ab nb cb, .int .i64 X3, .int .i64 X4]
        replace bX := bX.alloc (.cells #[.slice Aa na ca, .slice Ab nb cb, .int .i64 X3, .int .i64 X4] 35)
        replace hE := hE.alloc (.cells #[.slice Aa na ca, .slice Ab nb cb, .int .i64 X3, .int .i64 X4] 35)
        replace h1r := h1r.alloc (.cells #[.slice Aa na ca, .slice Ab nb cb, .int .i64 X3, .int .i64 X4] 35)
        replace ra := ra.alloc (.cells #[.slice Aa na ca, .slice Ab nb cb, .int .i64 X3, .int .i64 X4] 35)
        replace rb := rb.alloc (.cells #[.slice Aa na ca, .slice Ab nb cb, .int .i64 X3, .int .i64 X4] 35)
        replace hTT := hTT.alloc (.cells #[.slice Aa na ca, .slice Ab nb cb, .int .i64 X3, .int .i64 X4] 35)
        replace hdk := hdk.alloc (.cells #[.slice Aa na ca, .slice Ab nb cb, .int .i64 X3, .int .i64 X4] 35)
        replace hsm := hsm.alloc (.cells #[.slice Aa na ca, .slice Ab nb cb, .int .i64 X3, .int .i64 X4] 35)
        generalize hwz : wb.alloc (.cells #[.slice Aa na ca, .slice Ab nb cb, .int .i64 X3, .int .i64 X4] 35) = wc at *
        clear hwz
        generalize wb.heap.size = ga at *
        obtain ⟨x0, x1⟩ := blkG bX
        have kk := Lib.hid (kGr.out _ hE)
        go_wp2_with fail
        refine kk.out.mono ?_
        clear kk x0 x1 kGr
        rintro e wd ⟨o2, hO2, Ac, nc, cc, Ad, nd, cd, rfl, hcc, hcd, rc, rd, hbn, hfc⟩
        obtain rfl : o1 = o2 := isOrd_unique hO1.out hO2
        have hgdc : ∀ ad, Ac = some ad → 0 < nc → ¬ ad.block = gd := fun ad e hp => by have h1 := hfc ad e; have h2 := hdk.lt; omega
        have hnc : nc ≤ 64 := by
          have h1 := rc.len
          have h2 : (pxO (chkG nx ex) o1).length ≤ 64 := pxO_len (n := nx) (es := ex) (fun hz => by
            have h3 := (hO2.1 hz).2
            have h4 := chkG_zero hz
            omega)
          omega
        replace bX := bX.below hbn bX.lt
        replace pA := pA.below hbn pA.lt
        replace hE := RE.below hE hbn (Nat.le_refl _)
        replace h1r := RI.below h1r hbn (Nat.le_refl _)
        replace ra := RI.below ra hbn (Nat.le_refl _)
        replace rb := RI.below rb hbn (Nat.le_refl _)
        replace hTT := hTT.below hbn hTT.lt
        replace hdk := hdk.below hbn hdk.lt
        replace hsm := hsm.bb_ hbn (Nat.le_refl _)
        clear hbn hO2 hfc
        rw [hqq.out.1] at rc
        rw [hqq.out.2.1] at rd
        rw [hqq.out.2.2.1, hqq.out.2.2.2]
        have hnd : nd ≤ 64 := by
          have h1 := rd.len
          have h2 := pxS_len (chkG nx ex) nx ex o1
          rw [hqq.out.2.1] at h2
          omega
        have hna : na ≤ 64 := by have h1 := ra.len; have h2 := rc.len; omega
        have hnb : nb ≤ 64 := by have h1 := rb.len; have h2 := rd.len; omega
        clear hqq hO1
        go_upto_region 10 with fail
        have hgb0 : gd < wd.heap.size := hdk.lt
        have pB := Blk.new wd 35 #[.slice Ac nc cc, .slice Ad nd cd, .int .i64 X3, .int .i64 X4]
        replace bX := bX.alloc (.cells #[.slice Ac nc cc, .slice Ad nd cd, .int .i64 X3, .int .i64 X4] 35)
        replace pA := pA.alloc (.cells #[.slice Ac nc cc, .slice Ad nd cd, .int .i64 X3, .int .i64 X4] 35)
        replace hE := hE.alloc (.cells #[.slice Ac nc cc, .slice Ad nd cd, .int .i64 X3, .int .i64 X4] 35)
        replace h1r := h1r.alloc (.cells #[.slice Ac nc cc, .slice Ad nd cd, .int .i64 X3, .int .i64 X4] 35)
        replace ra := ra.alloc (.cells #[.slice Ac nc cc, .slice Ad nd cd, .int .i64 X3, .int .i64 X4] 35)
        replace rb := rb.alloc (.cells #[.slice Ac nc cc, .slice Ad nd cd, .int .i64 X3, .int .i64 X4] 35)
        replace rc := rc.alloc (.cells #[.slice Ac nc cc, .slice Ad nd cd, .int .i64 X3, .int .i64 X4] 35)
        replace rd := rd.alloc (.cells #[.slice Ac nc cc, .slice Ad nd cd, .int .i64 X3, .int .i64 X4] 35)
        replace hTT := hTT.alloc (.cells #[.slice Ac nc cc, .slice Ad nd cd, .int .i64 X3, .int .i64 X4] 35)
        replace hdk := hdk.alloc (.cells #[.slice Ac nc cc, .slice Ad nd cd, .int .i64 X3, .int .i64 X4] 35)
        replace hsm := hsm.alloc (.cells #[.slice Ac nc cc, .slice Ad nd cd, .int .i64 X3, .int .i64 X4] 35)
        have hgdb : gd < wd.heap.size := hgb0
        generalize hwz : wd.alloc (.cells #[.slice Ac nc cc, .slice Ad nd cd, .int .i64 X3, .int .i64 X4] 35) = we at *
        clear hwz
        generalize wd.heap.size = gb at *
        have u0 := Blk.cell pA 0
        have u1 := Blk.cell pA 1
        have u2 := Blk.cell pA 2
        have u3 := Blk.cell pA 3
        simp at u0 u1 u2 u3
        have v0 := Blk.cell pB 0
        have v1 := Blk.cell pB 1
        have v2 := Blk.cell pB 2
        have v3 := Blk.cell pB 3
        simp at v0 v1 v2 v3
        have ks := Lib.hid (same20_any Aa Ab Ac Ad na ca nb cb nc cc nd cd X1 X2 X3 X4 we ra rb rc rd (by omega) (by omega))
        generalize hEg : chkG nx ex = E0 at *
        have hEp := Lib.hid hEg
        clear hEg
        go_upto_region 12 with (first
          | (go_at_call 10; with_reducible refine ks.out.mono ?_; rintro e wf ⟨rfl, hbn⟩)
          | fail)
        clear u0 u1 u2 u3 v0 v1 v2 v3 ks ra rb rd pA
        replace bX := bX.below hbn bX.lt
        replace pB := pB.below hbn pB.lt
        replace hE := RE.below hE hbn (Nat.le_refl _)
        replace h1r := RI.below h1r hbn (Nat.le_refl _)
        replace rc := RI.below rc hbn (Nat.le_refl _)
        replace hTT := hTT.below hbn hTT.lt
        replace hdk := hdk.below hbn hdk.lt
        replace hsm := hsm.bb_ hbn (Nat.le_refl _)
        clear hbn hnd hna hnb
        obtain ⟨x0, x1⟩ := blkG bX
        have v0 := Blk.cell pB 0
        simp at v0
        have hxl := bX.lt
        have hpl := pB.lt
        have hPgd : some gb ≠ some gd := by intro e; injection e with e; omega
        have hord : ∃ (ko : Nat) (X : Int), ko ≤ 12 ∧ Hid (X = (ko : Int)) ∧ ((nx < 12 ∧ ¬ 0 < nx ∧ X = 0) ∨ (0 < nx ∧ nx < 12 ∧ nx = X) ∨ (¬ nx < 12 ∧ X = 12)) := by
          rcases Int.lt_or_le 0 nx with h | h
          · rcases Int.lt_or_le nx 12 with h' | h'
            · exact ⟨nx.toNat, nx, by omega, Lib.hid (by omega), .inr (.inl ⟨h, h', rfl⟩)⟩
            · exact ⟨12, 12, by omega, Lib.hid rfl, .inr (.inr ⟨by omega, rfl⟩)⟩
          · exact ⟨0, 0, by omega, Lib.hid rfl, .inl ⟨by omega, by omega, rfl⟩⟩
        have hwfl : gb < wf.heap.size := pB.lt
        go_cut [78, 79, 80] (fun a b c wx => ∃ (W1 : World) (sl : Nat), W1 = wx ∧ a = .slice (some ⟨sl, 0, none⟩) 3 3 ∧ b = .int .i64 3 ∧ c = .int .i64 0 ∧ SL3 wx sl ∧ gd < sl ∧ sl < wx.heap.size ∧ wf.grownBy wx (some gd) ∧ Dk wx gd)
        case first =>
          obtain ⟨ko, X, hko, hX, hcs⟩ := hord
          have kor := fun w h => mkorder_any gd ko w h (by omega)
          rw [← hX.out] at kor
          replace kor := Lib.hid kor
          rcases hcs with ⟨q1, q2, rfl⟩ | ⟨q1, q2, rfl⟩ | ⟨q1, rfl⟩
          -- B2
          all_goals
            go_region_held3 (fun w' => w'.cell? ⟨gx, 0, none⟩ = some (.int .i64 nx) ∧ w'.cell? ⟨gb, 0, none⟩ = some (.slice Ac nc cc))
              ((first | (exact ⟨s0, s1⟩) | (exact ⟨x0, v0⟩) | (exact ⟨(World.cell?_alloc_lt _ _ _ (Nat.lt_of_lt_of_le hxl hg3.size)).trans s0, (World.cell?_alloc_lt _ _ _ (Nat.lt_of_lt_of_le hwfl hg3.size)).trans s1⟩) | fail))
              ((first
                | (go_at_call 11; (with_reducible refine (kor.out _ hdk.drew).mono ?_); rintro e wg ⟨o3, A3, n3, c3, rfl, hn3, hP, hr3, hf3, hd3, hg3⟩
                   have s0 : wg.cell? ⟨gx, 0, none⟩ = some (.int .i64 nx) := (hg3.block_cell ⟨gx, 0, none⟩ hxl hXgd).trans x0
                   have s1 : wg.cell? ⟨gb, 0, none⟩ = some (.slice Ac nc cc) := (hg3.block_cell ⟨gb, 0, none⟩ hwfl hPgd).trans v0)
                | fail))
            have hbk := Blk.new wg 25 #[.slice Ac nc cc, .slice A1 m1 c1, .slice A3 n3 c3]
            have hgg : wf.heap.size ≤ wg.heap.size := hg3.size
            have hl3 : n3 ≤ 12 := by have := hP.1; have := hr3.len; omega
            have hdl := hdk.lt
            have hSL : SL3 (wg.alloc (.cells #[.slice Ac nc cc, .slice A1 m1 c1, .slice A3 n3 c3] 25)) wg.heap.size := by
              intro j hj
              have hjj : j = 0 ∨ j = 1 ∨ j = 2 := by omega
              rcases hjj with rfl | rfl | rfl
              · exact ⟨Ac, nc, cc, X1, hbk.cell 0, hcc, hnc, (RI.keptG_ rc.drew hg3 (fun ad e hp h => by injection h with h; exact hgdc ad e hp h.symm)).alloc _⟩
              · exact ⟨A1, m1, c1, ro, hbk.cell 1, hmc1, by omega, (RI.keptG_ h1r.drew hg3 (fun ad e hp h => by injection h with h; exact hgd1 ad e hp h.symm)).alloc _⟩
              · exact ⟨A3, n3, c3, o3, hbk.cell 2, hn3, by omega, hr3.alloc _⟩
            have hgz := grown_alloc (grown_trans (grown_drew (World.grownBy.refl wf (some gd))) hg3) (.cells #[.slice Ac nc cc, .slice A1 m1 c1, .slice A3 n3 c3] 25)
            have hdz := hd3.alloc (.cells #[.slice Ac nc cc, .slice A1 m1 c1, .slice A3 n3 c3] 25)
            have hlz : wg.heap.size < (wg.alloc (.cells #[.slice Ac nc cc, .slice A1 m1 c1, .slice A3 n3 c3] 25)).heap.size := by simp
            clear s0 s1 hg3 hd3 hr3 hP hf3 kor
            go_wp2_with fail
            go_meet
            case rel => exact ⟨_, wg.heap.size, rfl, rfl, rfl, rfl, hSL, by omega, hlz, hgz, hdz⟩
          -- E2
        case rest =>
          obtain ⟨W1, sl, rfl, rfl, rfl, rfl, hSL, hgdsl, hsl0, hgw, hdw⟩ := hcut
          replace bX := bX.grown hgw hXgd
          replace hE := RE.keptG_ hE hgw (fun ad e hp h => by injection h with h; exact hAx ad e hp h.symm)
          replace hTT := Tab.grown hTT hgw (by omega)
          replace hsm := hsm.gg_ hgw
          replace hSL := Lib.hid hSL
          have hgd0 := hdw.lt
          clear hgw hdk x0 v0 pB hxl hpl h1r rc hord hPgd hXgd
          have hexl : Hid (ex.length = mx) := Lib.hid hE.len
          have kRp := Lib.hid (fun A2 m2 c2 o w hT h h2 hmc hm2 => prest_all Ax mx cx nx ex A2 m2 c2 o w hT h (by omega) h2 hmc hm2)
          have kRr := Lib.hid (fun A2 m2 c2 o w h h2 hmc hm2 => rrest_all Ax mx cx nx ex A2 m2 c2 o w h (by omega) h2 hmc hm2)
          have kSp := Lib.hid (fun A2 m2 c2 o w h h2 hm2 => psplit_all Ax mx cx nx ex A2 m2 c2 o w h (by omega) h2 hm2)
          have kSr := Lib.hid (fun A2 m2 c2 o pl w h h2 hm2 hp => rsplit_all Ax mx cx nx ex A2 m2 c2 o pl w h (by omega) h2 hm2 hp)
          have kLp := Lib.hid (fun A2 m2 c2 o pl w h h2 hmc hm2 hp => plimit_all Ax mx cx nx ex A2 m2 c2 o pl w h (by omega) h2 hmc hm2 hp)
          have kLr := Lib.hid (fun A2 m2 c2 o pl w h h2 hm2 hp => rlimit_all Ax mx cx nx ex A2 m2 c2 o pl w h (by omega) h2 hm2 hp)
          go_wp2_with fail
          go_loopw [80] (fun i wr => ∃ t0 : Nat, t0 ≤ 3 ∧ i = .int .i64 t0 ∧ Below W1.heap.size W1 wr) (fun i _ => 3 - (intOf i).toNat)
          case atStart => exact ⟨0, by omega, rfl, Below.refl _ _⟩
          case round =>
            obtain ⟨t0, ht0, rfl, hb⟩ := hrel
            by_cases htl0 : t0 < 3
            · have i3 : (t0 : Int) < 3 := by omega
              obtain ⟨A2, m2, c2, o, y0, hm2c, hm2, h2⟩ := hSL.out t0 htl0
              have z0 := (hb.cell (p := ⟨sl, t0, none⟩) hsl0).trans y0
              clear y0
              replace bX := bX.below hb bX.lt
              replace hE := hE.below hb (Nat.le_refl _)
              replace hTT := hTT.below hb hTT.lt
              replace h2 := h2.below hb (Nat.le_refl _)
              go_upto_region 15 with fail
              clear z0
              have hol := h2.len
              have kA := fun w hT h h2 => kRp.out A2 m2 c2 o w hT h h2 hm2c (by omega)
              have kB := fun w h h2 => kRr.out A2 m2 c2 o w h h2 hm2c (by omega)
              have kC := fun w h h2 => kSp.out A2 m2 c2 o w h h2 (by omega)
              have kD := fun pl w h h2 hp => kSr.out A2 m2 c2 o pl w h h2 (by omega) hp
              have kE := fun pl w h h2 hp => kLp.out A2 m2 c2 o pl w h h2 hm2c (by omega) hp
              have kF := fun pl w h h2 hp => kLr.out A2 m2 c2 o pl w h h2 (by omega) hp
              generalize errL nx ex o = EL at *
              have hPO : (pxO EL o).length ≤ 64 := pxO_len (n := nx) (es := ex) (fun _ => by omega)
              have hPS := pxS_len EL nx ex o
              generalize pxO EL o = PO at *
              generalize pxS EL nx ex o = PS at *
              generalize pxN EL nx ex o = PN at *
              generalize pxD EL nx ex o = PD at *
              generalize spD EL = DN at *
              replace kA := Lib.hid kA
              replace kB := Lib.hid kB
              replace kC := Lib.hid kC
              replace kD := Lib.hid kD
              replace kE := Lib.hid kE
              replace kF := Lib.hid kF
              obtain ⟨x0, x1⟩ := blkG bX
              have kk := Lib.hid (kA.out _ hTT hE h2)
              go_wp2_with fail
              refine kk.out.mono ?_
              clear kk x0 x1
              rintro e wq1 ⟨Ae, ne, ce, Af, nf, cf, rfl, -, -, re, rf, hbn⟩
              replace bX := bX.below hbn bX.lt
              replace hE := RE.below hE hbn (Nat.le_refl _)
              replace h2 := RI.below h2 hbn (Nat.le_refl _)
              replace hTT := hTT.below hbn hTT.lt
              replace hb := hb.trans (hbn.mono hb.size)
              clear hbn
              go_upto_region 16 with fail
              have p1 := Blk.new wq1 35 #[.slice Ae ne ce, .slice Af nf cf, .int .i64 PN, .int .i64 PD]
              replace bX := bX.alloc (.cells #[.slice Ae ne ce, .slice Af nf cf, .int .i64 PN, .int .i64 PD] 35)
              replace hE := hE.alloc (.cells #[.slice Ae ne ce, .slice Af nf cf, .int .i64 PN, .int .i64 PD] 35)
              replace h2 := h2.alloc (.cells #[.slice Ae ne ce, .slice Af nf cf, .int .i64 PN, .int .i64 PD] 35)
              replace re := re.alloc (.cells #[.slice Ae ne ce, .slice Af nf cf, .int .i64 PN, .int .i64 PD] 35)
              replace rf := rf.alloc (.cells #[.slice Ae ne ce, .slice Af nf cf, .int .i64 PN, .int .i64 PD] 35)
              replace hTT := hTT.alloc (.cells #[.slice Ae ne ce, .slice Af nf cf, .int .i64 PN, .int .i64 PD] 35)
              replace hb := hb.alloc hb.size (.cells #[.slice Ae ne ce, .slice Af nf cf, .int .i64 PN, .int .i64 PD] 35)
              generalize hwz : wq1.alloc (.cells #[.slice Ae ne ce, .slice Af nf cf, .int .i64 PN, .int .i64 PD] 35) = wq1z at *
              clear hwz
              generalize wq1.heap.size = g1 at *
              obtain ⟨x0, x1⟩ := blkG bX
              have kk := Lib.hid (kB.out _ hE h2)
              go_wp2_with fail
              refine kk.out.mono ?_
              clear kk x0 x1
              rintro e wq2 ⟨Ag, ng, cg, Ah, nh, ch, rfl, -, -, rg, rh, hbn⟩
              replace bX := bX.below hbn bX.lt
              replace p1 := p1.below hbn p1.lt
              replace hE := RE.below hE hbn (Nat.le_refl _)
              replace h2 := RI.below h2 hbn (Nat.le_refl _)
              replace re := RI.below re hbn (Nat.le_refl _)
              replace rf := RI.below rf hbn (Nat.le_refl _)
              replace hTT := hTT.below hbn hTT.lt
              replace hb := hb.trans (hbn.mono hb.size)
              clear hbn
              go_upto_region 17 with fail
              have p2 := Blk.new wq2 35 #[.slice Ag ng cg, .slice Ah nh ch, .int .i64 PN, .int .i64 PD]
              replace bX := bX.alloc (.cells #[.slice Ag ng cg, .slice Ah nh ch, .int .i64 PN, .int .i64 PD] 35)
              replace p1 := p1.alloc (.cells #[.slice Ag ng cg, .slice Ah nh ch, .int .i64 PN, .int .i64 PD] 35)
              replace hE := hE.alloc (.cells #[.slice Ag ng cg, .slice Ah nh ch, .int .i64 PN, .int .i64 PD] 35)
              replace h2 := h2.alloc (.cells #[.slice Ag ng cg, .slice Ah nh ch, .int .i64 PN, .int .i64 PD] 35)
              replace re := re.alloc (.cells #[.slice Ag ng cg, .slice Ah nh ch, .int .i64 PN, .int .i64 PD] 35)
              replace rf := rf.alloc (.cells #[.slice Ag ng cg, .slice Ah nh ch, .int .i64 PN, .int .i64 PD] 35)
              replace rg := rg.alloc (.cells #[.slice Ag ng cg, .slice Ah nh ch, .int .i64 PN, .int .i64 PD] 35)
              replace rh := rh.alloc (.cells #[.slice Ag ng cg, .slice Ah nh ch, .int .i64 PN, .int .i64 PD] 35)
              replace hTT := hTT.alloc (.cells #[.slice Ag ng cg, .slice Ah nh ch, .int .i64 PN, .int .i64 PD] 35)
              replace hb := hb.alloc hb.size (.cells #[.slice Ag ng cg, .slice Ah nh ch, .int .i64 PN, .int .i64 PD] 35)
              generalize hwz : wq2.alloc (.cells #[.slice Ag ng cg, .slice Ah nh ch, .int .i64 PN, .int .i64 PD] 35) = wq2z at *
              clear hwz
              generalize wq2.heap.size = g2 at *
              obtain ⟨x0, x1⟩ := blkG bX
              have kk := Lib.hid (kC.out _ hE h2)
              go_wp2_with fail
              refine kk.out.mono ?_
              clear kk x0 x1
              rintro e wq3 ⟨pl, hpl, Ai, ni, ci, rfl, -, ri, hbn⟩
              replace bX := bX.below hbn bX.lt
              replace p1 := p1.below hbn p1.lt
              replace p2 := p2.below hbn p2.lt
              replace hE := RE.below hE hbn (Nat.le_refl _)
              replace h2 := RI.below h2 hbn (Nat.le_refl _)
              replace re := RI.below re hbn (Nat.le_refl _)
              replace rf := RI.below rf hbn (Nat.le_refl _)
              replace rg := RI.below rg hbn (Nat.le_refl _)
              replace rh := RI.below rh hbn (Nat.le_refl _)
              replace hTT := hTT.below hbn hTT.lt
              replace hb := hb.trans (hbn.mono hb.size)
              clear hbn
              have kD2 := fun w h h2 => kD.out pl w h h2 hpl
              have kE2 := fun w h h2 => kE.out pl w h h2 hpl
              have kF2 := fun w h h2 => kF.out pl w h h2 hpl
              have hPP := spX_len EL pl ex
              generalize spX EL pl ex = PP at *
              generalize limV EL nx.toNat pl ex = LV at *
              replace kD2 := Lib.hid kD2
              replace kE2 := Lib.hid kE2
              replace kF2 := Lib.hid kF2
              clear kD kE kF hpl
              go_upto_region 18 with fail
              have s1 := Blk.new wq3 44 #[.int .i64 DN, .slice Ai ni ci]
              replace bX := bX.alloc (.cells #[.int .i64 DN, .slice Ai ni ci] 44)
              replace p1 := p1.alloc (.cells #[.int .i64 DN, .slice Ai ni ci] 44)
              replace p2 := p2.alloc (.cells #[.int .i64 DN, .slice Ai ni ci] 44)
              replace hE := hE.alloc (.cells #[.int .i64 DN, .slice Ai ni ci] 44)
              replace h2 := h2.alloc (.cells #[.int .i64 DN, .slice Ai ni ci] 44)
              replace re := re.alloc (.cells #[.int .i64 DN, .slice Ai ni ci] 44)
              replace rf := rf.alloc (.cells #[.int .i64 DN, .slice Ai ni ci] 44)
              replace rg := rg.alloc (.cells #[.int .i64 DN, .slice Ai ni ci] 44)
              replace rh := rh.alloc (.cells #[.int .i64 DN, .slice Ai ni ci] 44)
              replace ri := ri.alloc (.cells #[.int .i64 DN, .slice Ai ni ci] 44)
              replace hTT := hTT.alloc (.cells #[.int .i64 DN, .slice Ai ni ci] 44)
              replace hb := hb.alloc hb.size (.cells #[.int .i64 DN, .slice Ai ni ci] 44)
              generalize hwz : wq3.alloc (.cells #[.int .i64 DN, .slice Ai ni ci] 44) = wq3z at *
              clear hwz
              generalize wq3.heap.size = g3 at *
              obtain ⟨x0, x1⟩ := blkG bX
              have kk := Lib.hid (kD2.out _ hE h2)
              go_wp2_with fail
              refine kk.out.mono ?_
              clear kk x0 x1
              rintro e wq4 ⟨Aj, nj, cj, rfl, -, rj, hbn⟩
              replace bX := bX.below hbn bX.lt
              replace p1 := p1.below hbn p1.lt
              replace p2 := p2.below hbn p2.lt
              replace s1 := s1.below hbn s1.lt
              replace hE := RE.below hE hbn (Nat.le_refl _)
              replace h2 := RI.below h2 hbn (Nat.le_refl _)
              replace re := RI.below re hbn (Nat.le_refl _)
              replace rf := RI.below rf hbn (Nat.le_refl _)
              replace rg := RI.below rg hbn (Nat.le_refl _)
              replace rh := RI.below rh hbn (Nat.le_refl _)
              replace ri := RI.below ri hbn (Nat.le_refl _)
              replace hTT := hTT.below hbn hTT.lt
              replace hb := hb.trans (hbn.mono hb.size)
              clear hbn
              go_upto_region 19 with fail
              have s2 := Blk.new wq4 44 #[.int .i64 DN, .slice Aj nj cj]
              replace bX := bX.alloc (.cells #[.int .i64 DN, .slice Aj nj cj] 44)
              replace p1 := p1.alloc (.cells #[.int .i64 DN, .slice Aj nj cj] 44)
              replace p2 := p2.alloc (.cells #[.int .i64 DN, .slice Aj nj cj] 44)
              replace s1 := s1.alloc (.cells #[.int .i64 DN, .slice Aj nj cj] 44)
              replace hE := hE.alloc (.cells #[.int .i64 DN, .slice Aj nj cj] 44)
              replace h2 := h2.alloc (.cells #[.int .i64 DN, .slice Aj nj cj] 44)
              replace re := re.alloc (.cells #[.int .i64 DN, .slice Aj nj cj] 44)
              replace rf := rf.alloc (.cells #[.int .i64 DN, .slice Aj nj cj] 44)
              replace rg := rg.alloc (.cells #[.int .i64 DN, .slice Aj nj cj] 44)
              replace rh := rh.alloc (.cells #[.int .i64 DN, .slice Aj nj cj] 44)
              replace ri := ri.alloc (.cells #[.int .i64 DN, .slice Aj nj cj] 44)
              replace rj := rj.alloc (.cells #[.int .i64 DN, .slice Aj nj cj] 44)
              replace hTT := hTT.alloc (.cells #[.int .i64 DN, .slice Aj nj cj] 44)
              replace hb := hb.alloc hb.size (.cells #[.int .i64 DN, .slice Aj nj cj] 44)
              generalize hwz : wq4.alloc (.cells #[.int .i64 DN, .slice Aj nj cj] 44) = wq4z at *
              clear hwz
              generalize wq4.heap.size = g4 at *
              obtain ⟨x0, x1⟩ := blkG bX
              have kk := Lib.hid (kE2.out _ hE h2)
              go_wp2_with fail
              refine kk.out.mono ?_
              clear kk x0 x1
              rintro e wq5 ⟨rfl, hbn⟩
              replace bX := bX.below hbn bX.lt
              replace p1 := p1.below hbn p1.lt
              replace p2 := p2.below hbn p2.lt
              replace s1 := s1.below hbn s1.lt
              replace s2 := s2.below hbn s2.lt
              replace hE := RE.below hE hbn (Nat.le_refl _)
              replace h2 := RI.below h2 hbn (Nat.le_refl _)
              replace re := RI.below re hbn (Nat.le_refl _)
              replace rf := RI.below rf hbn (Nat.le_refl _)
              replace rg := RI.below rg hbn (Nat.le_refl _)
              replace rh := RI.below rh hbn (Nat.le_refl _)
              replace ri := RI.below ri hbn (Nat.le_refl _)
              replace rj := RI.below rj hbn (Nat.le_refl _)
              replace hTT := hTT.below hbn hTT.lt
              replace hb := hb.trans (hbn.mono hb.size)
              clear hbn
              obtain ⟨x0, x1⟩ := blkG bX
              have kk := Lib.hid (kF2.out _ hE h2)
              go_wp2_with fail
              refine kk.out.mono ?_
              clear kk x0 x1
              rintro e wq6 ⟨rfl, hbn⟩
              replace bX := bX.below hbn bX.lt
              replace p1 := p1.below hbn p1.lt
              replace p2 := p2.below hbn p2.lt
              replace s1 := s1.below hbn s1.lt
              replace s2 := s2.below hbn s2.lt
              replace hE := RE.below hE hbn (Nat.le_refl _)
              replace h2 := RI.below h2 hbn (Nat.le_refl _)
              replace re := RI.below re hbn (Nat.le_refl _)
              replace rf := RI.below rf hbn (Nat.le_refl _)
              replace rg := RI.below rg hbn (Nat.le_refl _)
              replace rh := RI.below rh hbn (Nat.le_refl _)
              replace ri := RI.below ri hbn (Nat.le_refl _)
              replace rj := RI.below rj hbn (Nat.le_refl _)
              replace hTT := hTT.below hbn hTT.lt
              replace hb := hb.trans (hbn.mono hb.size)
              clear hbn
              have l1 : ne ≤ 64 := by have := re.len; omega
              have l2 : nf ≤ 64 := by have := rf.len; omega
              have l3 : ni ≤ 100 := by have := ri.len; have := hexl.out; omega
              have l4 : nj ≤ 100 := by have := rj.len; have := hexl.out; omega
              have ks1 := Lib.hid (fun w' (hb : Below wq6.heap.size wq6 w') => same20_any Ae Af Ag Ah ne ce nf cf ng cg nh ch PO PS PN PD w' (RI.below re hb (Nat.le_refl _)) (RI.below rf hb (Nat.le_refl _)) (RI.below rg hb (Nat.le_refl _)) (RI.below rh hb (Nat.le_refl _)) (by omega) (by omega))
              have ks2 := Lib.hid (fun w' (hb : Below wq6.heap.size wq6 w') => same_eq Ai Aj ni ci nj cj PP w' (RI.below ri hb (Nat.le_refl _)) (by omega) (RI.below rj hb (Nat.le_refl _)) (by omega))
              have u0 := Blk.cell p1 0
              have u1 := Blk.cell p1 1
              have u2 := Blk.cell p1 2
              have u3 := Blk.cell p1 3
              simp at u0 u1 u2 u3
              have v0 := Blk.cell p2 0
              have v1 := Blk.cell p2 1
              have v2 := Blk.cell p2 2
              have v3 := Blk.cell p2 3
              simp at v0 v1 v2 v3
              have y0 := Blk.cell s1 0
              have y1 := Blk.cell s1 1
              simp at y0 y1
              have z0 := Blk.cell s2 0
              have z1 := Blk.cell s2 1
              simp at z0 z1
              have lp := s1.lt
              have lq := s2.lt
              clear re rf rg rh ri rj p1 p2 hPO hPS hPP l1 l2 l3 l4 bX hE h2 hTT kA kB kC kD2 kE2 kF2
              have e1 : (EL != EL) = false := by simp
              have e2 : (LV != LV) = false := by simp
              have e3 : (DN != DN) = false := by simp
              go_wp2_with (first
                | (go_at_call 10; refine (ks1.out _ (Below.refl _ _)).mono ?_; rintro e wr1 ⟨rfl, hbn⟩
                   have y0' := (hbn.cell (p := ⟨g3, 0, none⟩) lp).trans y0
                   have y1' := (hbn.cell (p := ⟨g3, 1, none⟩) lp).trans y1
                   have z0' := (hbn.cell (p := ⟨g4, 0, none⟩) lq).trans z0
                   have z1' := (hbn.cell (p := ⟨g4, 1, none⟩) lq).trans z1)
                | (go_at_call 18; refine (ks2.out _ hbn).mono ?_; rintro e wr2 ⟨rfl, qq, rfl⟩)
                | fail)
              go_roundw
              case rel => exact ⟨t0 + 1, by omega, by go_num, hb.trans ((below_drewN hbn qq).mono hb.size)⟩
              case measure => simp [intOf]; omega
            · have i3 : ¬ (t0 : Int) < 3 := by omega
              have hsmz := hsm.bb_ hb (Nat.le_refl _)
              have hdz := hdw.below hb hdw.lt
              go_wp2_with fail
              go_roundw
              case rel => exact ⟨k0 + 1, by omega, by go_num, hsmz, hdz⟩
              case measure => simp [intOf]; omega
      -- E1
      · have i0 : ¬ (k0 : Int) < 2 := by omega
        have ka2 := Lib.hid (ka.out wr (hT.keep hWr))
        go_wp2_with (first | (go_at_call 5; refine ka2.out.mono ?_; rintro e wz ⟨rfl, hbz⟩) | fail)
        go_ret
        exact ⟨rfl, hWr.trans (hbz.mono hWr.size)⟩
end Go.Proofs.YtdibfecejgjfmaaGreatDoor.Pl
