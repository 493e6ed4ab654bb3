/- Package peel: Limit, asked. -/
import Derived.Test.YtdibfecejgjfmaaGreatDoorCorC
import Derived.Test.YtdibfecejgjfmaaGreatDoorSmx
import Derived.Test.YtdibfecejgjfmaaGreatDoorSrtM
import Derived.Test.YtdibfecejgjfmaaGreatDoorOrdM
import Derived.Test.YtdibfecejgjfmaaGreatDoorPeeE
import Derived.Test.YtdibfecejgjfmaaGreatDoorCorH
set_option linter.unusedVariables false
set_option linter.unusedSimpArgs false
namespace Go.Proofs.YtdibfecejgjfmaaGreatDoor
open Go.RowKit CoBit

set_option maxRecDepth 100000 in
set_option maxHeartbeats 4000000 in
theorem later_g (A : Option Addr) (m c : Nat) (n : Nat) (es : List (Int × Int)) (A2 : Option Addr) (m2 c2 : Nat) (o : List Int) (w : World) (h : RE w A m es) (hm : m ≤ 68719476736) (hn : n ≤ 64) (h2 : RI w A2 m2 o) (hmc : m2 ≤ c2) (ho : Per o n) (hc : chkG n es = 0) :
    Calls Tryz.prog 50 #[.agg #[.int .i64 n, .slice A m c], .slice A2 m2 c2] w fun e w' => ∃ g ls, e = .returned (.slice (some ⟨g, 0, none⟩) n n) ∧ w.heap.size ≤ g ∧ AI w' g ls ∧ Below w.heap.size w w' ∧ IsLater (nbG n es) n o ls := by
  have hol := Lib.hid h2.len
  have hm2 : m2 ≤ 64 := by have := ho.1; have := hol.out; omega
  have hst : LaterTo (nbG n es) n o (List.replicate n 0) 0 := ⟨by simp, fun i v hi => by omega⟩
  have hlf := Lib.hid (left_start ho)
  have hrl := rowsL_length n es
  have hrlt := Lib.hid (rows_lt es hn)
  have hpd := Lib.hid (fun v y l hl => pop_dg (es := es) hc hn v y l hl)
  replace ho := Lib.hid ho
  replace hc := Lib.hid hc
  replace hrl := Lib.hid hrl
  have hall : 2 ^ n - 1 < 18446744073709551616 := by
    have h1 : (2 : Nat) ^ n ≤ 2 ^ 64 := Nat.pow_le_pow_right (by omega) hn
    rw [show (2 : Nat) ^ 64 = 18446744073709551616 by decide +kernel] at h1
    have := Nat.two_pow_pos n
    omega
  go_enter Tryz.func50, Tryz.ntmps50
  go_wp2_with fail
  refine (rows_any A m c n es _ (h.alloc _) (by omega) hn).mono ?_
  rintro e w1 ⟨gr, rfl, hgr, hR, hb1⟩
  simp only [World.size_alloc] at hb1 hgr
  have hb0 : Below w.heap.size w w1 := ((Below.refl _ _).alloc (Nat.le_refl _) _).trans (hb1.mono (by simp))
  have hrl1 := hR.lt
  have hs0 := hb0.size
  generalize hrows : rowsL n es = rows at *
  replace hrows := Lib.hid hrows
  clear hb1
  go_wp2_with (at_make; refine wpList_makeI rfl _ _ rfl rfl rfl (n := n) (by omega) (by omega) (by omega) ?_; intro w2 hA2 hg2)
  replace hR := AU.grown hR hg2 (by simp)
  replace hb0 := hb0.trans (grown_none_below hg2 _ hs0)
  have hs2 := hg2.size
  have hne : gr ≠ w1.heap.size := by omega
  have hgl : w.heap.size ≤ w1.heap.size := hs0
  clear hg2
  generalize w1.heap.size = gb at *
  refine (all_any n hn _).mono ?_
  rintro e w3 ⟨rfl, rfl⟩
  generalize 2 ^ n - 1 = left0 at *
  generalize List.replicate n (0 : Int) = ls0 at *
  replace hst := Lib.hid hst
  go_wp2_with fail
  go_loopw [7, 20] (fun lf i wr => ∃ (k left : Nat) (ls : List Int), k ≤ m2 ∧ i = .int .i64 k ∧ lf = .int .u64 left ∧ left < 18446744073709551616 ∧ Hid (∀ i, i < n → (left.testBit i = true ↔ (i : Int) ∈ o.drop k)) ∧ AI wr gb ls ∧ AU wr gr rows ∧ Hid (LaterTo (nbG n es) n o ls k) ∧ Below w.heap.size w wr) (fun _ i _ => m2 - (intOf i).toNat)
  case atStart => exact ⟨0, left0, ls0, Nat.zero_le _, rfl, rfl, hall, hlf, hA2, hR, hst, hb0⟩
  case round =>
    obtain ⟨k, left, ls, hk, rfl, rfl, hl, hlb, hA, hR2, hL, hb⟩ := hrel
    clear hA2 hR hst hb0 hlf
    by_cases hlt : k < m2
    · obtain ⟨ad, v, rfl, hv, hcv⟩ := (RI.below h2 hb (Nat.le_refl _)).get hlt
      have hv0 := ho.out.2.2 v (mem_at hv.out)
      obtain ⟨x, rfl⟩ := Int.eq_ofNat_of_zero_le hv0.1
      have hxn : x < n := by omega
      have hcr := hR2.cell (i := x) (by rw [hrl.out]; exact hxn)
      have hr64 := getD_lt hrlt.out x
      have e1 := u64_clr hl (show x < 64 by omega)
      have hl2 := clr_lt (b := x) hl
      have hlb2 := Lib.hid (left_step ho.out hv.out hl (by omega) hlb.out)
      have hcount : pop (rows.getD x 0 &&& clr left x) = dg (nbG n es) (o.drop (k + 1)) x := hpd.out x _ _ hlb2.out
      have hstep := later_step hL.out ho.out hv.out
      rw [Int.toNat_natCast, ← hcount] at hstep
      generalize clr left x = left2 at *
      have e2 := bits_and_u64_nat (rows.getD x 0) left2 hr64 hl2
      have hl3 : rows.getD x 0 &&& left2 < 18446744073709551616 := and_lt' hr64
      generalize rows.getD x 0 = R at *
      have hxl : x < ls.length := by rw [hL.out.1]; exact hxn
      have hcx := hA.cell hxl
      have hfx := hA.frozen x
      have hset := hA.set x (pop (R &&& left2) : Nat)
      replace hstep := Lib.hid hstep
      clear hcount
      generalize R &&& left2 = q at *
      have i0 : (0 : Int) ≤ (x : Int) := Int.natCast_nonneg _
      have i1 : (x : Int) < (n : Int) := by omega
      go_wp2_with fail
      refine (bit_any x (by omega) _).mono ?_
      rintro e w4 ⟨rfl, rfl⟩
      go_wp2_with fail
      refine (count_any q hl3 _).mono ?_
      rintro e w4 ⟨rfl, rfl⟩
      generalize pop q = d at *
      go_wp2_with fail
      go_roundw
      case rel => exact ⟨k + 1, left2, _, by omega, by go_num, rfl, hl2, hlb2, hset, AU.far hR2 (p := ⟨gb, x, none⟩) (by simp; omega) _, hstep, hb.setCell (p := ⟨gb, x, none⟩) hgl _⟩
      case measure => simp [intOf]; omega
    · have hfin : IsLater (nbG n es) n o ls := by
        refine ⟨hL.out.1, fun i v hv => hL.out.2 i v ?_ hv⟩
        obtain ⟨hi, _⟩ := List.getElem?_eq_some_iff.1 hv
        rw [hol.out] at hi
        omega
      replace hfin := Lib.hid hfin
      go_wp2_with fail
      go_ret
      exact ⟨gb, ls, rfl, hgl, hA, hb, hfin.out⟩
set_option maxRecDepth 100000 in
set_option maxHeartbeats 1000000 in
theorem cLater_g (A : Option Addr) (m c : Nat) (n : Nat) (es : List (Int × Int)) (A2 : Option Addr) (m2 c2 : Nat) (o : List Int) (w : World) (h : RE w A m es) (hm : m ≤ 68719476736) (h2 : RI w A2 m2 o) (hmc : m2 ≤ c2) (hm2 : m2 ≤ 1099511627776) (hz : chkG n es = 0) (hn : n ≤ 64) (ho : Per o n) :
    Calls Tryz.prog 27 #[.agg #[.int .i64 n, .slice A m c], .slice A2 m2 c2] w fun e w' => ∃ g ls, e = .returned (.tuple #[.slice (some ⟨g, 0, none⟩) n n, .int .i64 0]) ∧ w.heap.size ≤ g ∧ AI w' g ls ∧ Below w.heap.size w w' ∧ IsLater (nbG n es) n o ls := by
  have ck := fun w h => gcheck_any A m c n es w h (by omega)
  have hper := Lib.hid ho
  have hz0 := Lib.hid hz
  have hb : decide (OrdI o n) = true := decide_eq_true (ordI_per.2 ho)
  rw [hz] at ck
  clear hz ho
  replace ck := Lib.hid ck
  replace hb := Lib.hid hb
  go_enter Tryz.func27, Tryz.ntmps27
  go_wp2_with fail
  refine (ck.out _ (h.alloc _)).mono ?_
  rintro e w1 ⟨rfl, hb1⟩
  simp only [World.size_alloc] at hb1
  have hG : Blk w1 w.heap.size 24 #[.int .i64 n, .slice A m c] := Blk.below (Blk.new _ _ _) hb1 (by simp)
  have hb0 : Below w.heap.size w w1 := ((Below.refl _ _).alloc (Nat.le_refl _) _).trans (hb1.mono (by simp))
  have g0 := Blk.cell hG 0
  have g1 := Blk.cell hG 1
  simp at g0 g1
  have h3 := RI.below h2 hb0 (Nat.le_refl _)
  have hs0 := hb0.size
  have hGl := hG.lt
  clear hb1
  go_wp2_with fail
  refine (whole_any A2 m2 c2 o n _ h3 hm2 (by omega)).mono ?_
  rintro e w2 ⟨rfl, hb2⟩
  rw [hb.out]
  replace hG := Blk.below hG hb2 hGl
  replace hb0 := hb0.trans (hb2.mono hs0)
  clear hb2 g0 g1 h3
  have g0 := Blk.cell hG 0
  have g1 := Blk.cell hG 1
  simp at g0 g1
  have h3 := RI.below h2 hb0 (Nat.le_refl _)
  have h4 := RE.below h hb0 (Nat.le_refl _)
  have hs2 := hb0.size
  go_wp2_with fail
  refine (later_g A m c n es A2 m2 c2 o _ h4 hm (by omega) h3 hmc hper.out hz0.out).mono ?_
  rintro e w3 ⟨g, ls, rfl, hg, hA, hb5, hls⟩
  have hb6 := hb0.trans (hb5.mono hs2)
  replace hls := Lib.hid hls
  clear hb5
  go_wp2_with fail
  go_ret2
  exact ⟨g, ls, rfl, by omega, hA, hb6, hls.out⟩


/-- A block of a list is the call's own. -/
theorem AI.oi {w : World} {g B : Nat} {xs : List Int} (h : AI w g xs) (hB : B ≤ g) (hn : xs.length ≤ 1099511627776) : OI w B (.slice (some ⟨g, 0, none⟩) xs.length xs.length) xs := by
  refine ⟨by rw [ints_length]; omega, .inr ⟨g, xs.length, (ints xs).toArray, rfl, hB, h, Nat.le_refl _, by unfold maxLen; omega, by simp [ints_length], by rw [← ints_length]; simp⟩⟩
theorem isMx_maxL {ls : List Int} (h : ∀ x ∈ ls, 0 ≤ x) {m : Int} (hm : IsMx (ls ++ [0]) m) : m = maxL ls := by
  have h1 : 0 ≤ m := hm.2 0 (by simp)
  have h2 : ∀ x ∈ ls, x ≤ m := fun x hx => hm.2 x (by simp [hx])
  have h3 := maxL_le h1 h2
  have h4 := hm.1
  rw [List.mem_append] at h4
  rcases h4 with h4 | h4
  · have := maxL_ge h4; omega
  · rw [List.mem_singleton] at h4
    have := maxL_nonneg ls; omega
theorem later_nonneg {nb : Int → List Int} {n : Nat} {o ls : List Int} (ho : Per o n) (h : IsLater nb n o ls) : ∀ x ∈ ls, 0 ≤ x := by
  intro x hx
  obtain ⟨i, hi⟩ := List.mem_iff_getElem?.1 hx
  obtain ⟨hl, rfl⟩ := List.getElem?_eq_some_iff.1 hi
  rw [h.1] at hl
  have hm := per_all ho hl
  obtain ⟨j, hj⟩ := List.mem_iff_getElem?.1 hm
  have := h.2 j _ hj
  rw [Int.toNat_natCast, List.getD_eq_getElem?_getD, hi] at this
  simp at this
  rw [this]; omega
set_option maxRecDepth 100000 in
set_option maxHeartbeats 1000000 in
theorem plimit_any (A : Option Addr) (m c : Nat) (n : Nat) (es : List (Int × Int)) (A2 : Option Addr) (m2 c2 : Nat) (o : List Int) (w : World) (h : RE w A m es) (hm : m ≤ 68719476736) (h2 : RI w A2 m2 o) (hmc : m2 ≤ c2) (hm2 : m2 ≤ 1099511627776) (hz : chkG n es = 0) (hn : n ≤ 64) (ho : Per o n) :
    Calls Tryz.prog 16 #[.agg #[.int .i64 n, .slice A m c], .slice A2 m2 c2] w fun e w' => ∃ ls, e = .returned (.tuple #[.int .i64 (maxL ls), .int .i64 0]) ∧ IsLater (nbG n es) n o ls ∧ Below w.heap.size w w' := by
  have hper := Lib.hid ho
  go_enter Tryz.func16, Tryz.ntmps16
  go_wp2_with fail
  refine (cLater_g A m c n es A2 m2 c2 o _ (h.alloc _) hm (h2.alloc _) hmc hm2 hz hn ho).mono ?_
  rintro e w1 ⟨g, ls, rfl, hg, hA, hb1, hls⟩
  have hb0 : Below w.heap.size w w1 := ((Below.refl _ _).alloc (Nat.le_refl _) _).trans (hb1.mono (by simp))
  simp at hg
  have hll : ls.length = n := hls.1
  have ho1 := AI.oi hA (show w.heap.size ≤ g by omega) (by omega)
  rw [hll] at ho1
  have hs1 := hb0.size
  have hfin := Lib.hid (fun m hm => isMx_maxL (later_nonneg hper.out hls) (m := m) hm)
  replace hls := Lib.hid hls
  clear hb1 hz ho hA
  generalize Value.slice (some ⟨g, 0, none⟩) n n = v at *
  go_wp2_with (at_builtin; refine wpList_push rfl _ _ rfl rfl rfl (by simp) ho1 (by omega) (by omega) ?_; intro v1 w2 ho2 hb2 hg2; obtain ⟨A3, n3, c3, rfl, hn3, hc3, hcm3, hr3⟩ := ho2.form; obtain rfl : n3 = n + 1 := (by rw [hn3]; simp [hll]); clear hn3)
  refine (smax_any A3 (n + 1) c3 _ _ hr3 (by omega) (by omega)).mono ?_
  rintro e w3 ⟨mx, rfl, hmx, rfl⟩
  have he := Lib.hid (hfin.out _ hmx)
  have hb3 := hb0.trans hb2
  clear hmx hr3 hb0 hb2
  go_wp2_with fail
  go_ret2
  exact ⟨ls, retTup (congrArg (Value.int .i64) he.out) rfl, hls.out, hb3⟩
set_option maxRecDepth 100000 in
set_option maxHeartbeats 1000000 in
theorem asked_any (A : Option Addr) (m c : Nat) (n : Int) (es : List (Int × Int)) (A2 : Option Addr) (m2 c2 : Nat) (o : List Int) (w : World) (h : RE w A m es) (hm : m ≤ 68719476736) (h2 : RI w A2 m2 o) (hm2 : m2 ≤ 1099511627776) :
    Calls Tryz.prog 25 #[.agg #[.int .i64 n, .slice A m c], .slice A2 m2 c2] w fun e w' => e = .returned (.int .i64 (errL n es o)) ∧ Below w.heap.size w w' := by
  have ck := fun w h => gcheck_any A m c n es w h (by omega)
  by_cases hz : chkG n es = 0
  · obtain ⟨z0, z1, _⟩ := chkG_zero hz
    obtain ⟨n, rfl⟩ := Int.eq_ofNat_of_zero_le z0
    have herr : errL n es o = if OrdI o n then 0 else 4 := by unfold errL; rw [if_pos hz]
    rw [herr]
    rw [hz] at ck
    clear hz herr
    replace ck := Lib.hid ck
    have kw := fun w h => whole_any A2 m2 c2 o n w h hm2 (by omega)
    by_cases ho : OrdI o n
    all_goals
      simp only [ho, decide_true, decide_false] at kw ⊢
      replace kw := Lib.hid kw
      clear ho
      go_enter Tryz.func25, Tryz.ntmps25
      go_wp2_with fail
      refine (ck.out _ (h.alloc _)).mono ?_
      rintro e w1 ⟨rfl, hb1⟩
      simp only [World.size_alloc] at hb1
      have hG : Blk w1 w.heap.size 24 #[.int .i64 n, .slice A m c] := Blk.below (Blk.new _ _ _) hb1 (by simp)
      have hb0 : Below w.heap.size w w1 := ((Below.refl _ _).alloc (Nat.le_refl _) _).trans (hb1.mono (by simp))
      obtain ⟨d0, d1⟩ := blkG hG
      have h3 := RI.below h2 hb0 (Nat.le_refl _)
      clear hb1
      go_wp2_with fail
      refine (kw.out _ h3).mono ?_
      rintro e w2 ⟨rfl, hb2⟩
      have hb02 := hb0.trans (hb2.mono hb0.size)
      clear hb2 hb0 h3 d0 d1 hG
      go_wp2_with fail
      go_ret
      exact ⟨rfl, hb02⟩
  · have herr : errL n es o = chkG n es := by unfold errL; rw [if_neg hz]
    rw [herr]
    have q : (chkG n es != 0) = true := by rw [bne_iff_ne]; exact hz
    generalize chkG n es = x at *
    replace ck := Lib.hid ck
    clear hz herr
    go_enter Tryz.func25, Tryz.ntmps25
    go_wp2_with fail
    refine (ck.out _ (h.alloc _)).mono ?_
    rintro e w1 ⟨rfl, hb1⟩
    have hb0 : Below w.heap.size w w1 := ((Below.refl _ _).alloc (Nat.le_refl _) _).trans (hb1.mono (by simp))
    clear hb1
    go_wp2_with fail
    go_ret
    exact ⟨rfl, hb0⟩
end Go.Proofs.YtdibfecejgjfmaaGreatDoor

namespace Go.Proofs.YtdibfecejgjfmaaGreatDoor
open Go.RowKit CoBit CoRat Rt

/-- A peeling is returned. -/
def RetPee (w : World) (o S : List Int) (N D : Int) (e : Ending) (w' : World) : Prop := ∃ A1 n1 c1 A2 n2 c2, e = .returned (.agg #[.slice A1 n1 c1, .slice A2 n2 c2, .int .i64 N, .int .i64 D]) ∧ n1 ≤ c1 ∧ n2 ≤ c2 ∧ RI w' A1 n1 o ∧ RI w' A2 n2 S ∧ Below w.heap.size w w' ∧ Fr w.heap.size A1 ∧ Fr w.heap.size A2
/-- A peeling and an error are returned. -/
def RetPeE (w : World) (o S : List Int) (N D err : Int) (e : Ending) (w' : World) : Prop := ∃ A1 n1 c1 A2 n2 c2, e = .returned (.tuple #[.agg #[.slice A1 n1 c1, .slice A2 n2 c2, .int .i64 N, .int .i64 D], .int .i64 err]) ∧ n1 ≤ c1 ∧ n2 ≤ c2 ∧ RI w' A1 n1 o ∧ RI w' A2 n2 S ∧ Below w.heap.size w w' ∧ Fr w.heap.size A1 ∧ Fr w.heap.size A2
theorem recK_lt {n : Nat} (hn : n ≤ 64) (es : List (Int × Int)) (o : List Int) (k : Nat) : (recK n es o k).1 < 18446744073709551616 := by
  induction k with
  | zero => show (0 : Nat) < _; omega
  | succ k ih =>
    show (offV es (lfK n o k) (recK n es o k)).1 < _
    unfold offV
    split
    · exact lfK_lt hn o k
    · split
      · exact lfK_lt hn o k
      · exact ih

set_option maxRecDepth 100000 in
set_option maxHeartbeats 4000000 in
theorem rest_any (A : Option Addr) (m c : Nat) (n : Nat) (es : List (Int × Int)) (A2 : Option Addr) (m2 c2 : Nat) (o : List Int) (w : World) (hT : Tab w) (h : RE w A m es) (hm : m ≤ 68719476736) (h2 : RI w A2 m2 o) (hz : chkG n es = 0) (hn : n ≤ 64) (ho : Per o n) :
    Calls Tryz.prog 22 #[.agg #[.int .i64 n, .slice A m c], .slice A2 m2 c2] w (RetPee w o (bset (recK n es o n).1) (recK n es o n).2.1 (fixD (recK n es o n).2.2)) := by
  have hper := Lib.hid ho
  have hgm := Lib.hid hz
  have hol := Lib.hid h2.len
  obtain rfl : m2 = n := by rw [← h2.len]; exact ho.1
  have hes : es.length ≤ 68719476736 := by rw [h.len]; exact hm
  have hTl := hT.lt
  clear hz ho
  go_enter Tryz.func22, Tryz.ntmps22
  go_wp2_with fail
  refine (rows_any A m c m2 es _ ((h.alloc _).alloc _) (by omega) hn).mono ?_
  rintro e w1 ⟨gr, rfl, hgr, hR, hb1⟩
  simp only [World.size_alloc] at hb1 hgr
  have b0 : Below w.heap.size w ((w.alloc (.cells #[.int .i64 m2, .slice A m c] 24)).alloc (.cells #[.slice none 0 0, .slice none 0 0, .int .i64 0, .int .i64 0] 35)) := ((Below.refl _ _).alloc (Nat.le_refl _) _).alloc (by simp) _
  have hb0 := b0.trans (hb1.mono (by omega))
  have G1 : Blk w1 w.heap.size 24 #[.int .i64 m2, .slice A m c] := Blk.below ((Blk.new w _ _).alloc _) hb1 (by omega)
  have F1 : Blk w1 (w.heap.size + 1) 35 #[.slice none 0 0, .slice none 0 0, .int .i64 0, .int .i64 0] := Blk.below (Blk.new' _ _ _ (by simp)) hb1 (by omega)
  obtain ⟨d0, d1⟩ := blkG G1
  have hrl1 := hR.lt
  have s1 : w.heap.size + 2 ≤ w1.heap.size := by have := hb1.size; simp at this; omega
  clear hb1 b0
  go_wp2_with fail
  refine (all_any m2 hn _).mono ?_
  rintro e w1' ⟨rfl, rfl⟩
  go_upto_region 4 with fail
  have hRec : Rec (w1.alloc (.cells #[.int .u64 0, .int .i64 0, .int .i64 0] 75)) w1.heap.size 0 0 0 := Blk.new _ _ _
  have hR2 := hR.alloc (.cells #[.int .u64 0, .int .i64 0, .int .i64 0] 75)
  have F2 := F1.alloc (.cells #[.int .u64 0, .int .i64 0, .int .i64 0] 75)
  have hb2 := hb0.alloc hb0.size (.cells #[.int .u64 0, .int .i64 0, .int .i64 0] 75)
  have hne1 : gr ≠ w1.heap.size := by omega
  have hne2 : w.heap.size + 1 ≠ w1.heap.size := by omega
  have hgl : w.heap.size ≤ w1.heap.size := by omega
  have hgt : 0 ≠ w1.heap.size := by omega
  clear G1 d0 d1 hb0 F1 hR
  generalize w1.alloc (.cells #[.int .u64 0, .int .i64 0, .int .i64 0] 75) = w2 at *
  generalize w1.heap.size = gR at *
  go_wp2_with fail
  go_loopw [6, 17] (fun lf i wr => ∃ k : Nat, k ≤ m2 ∧ i = .int .i64 k ∧ lf = .int .u64 (lfK m2 o k : Nat) ∧ Rec wr gR (recK m2 es o k).1 (recK m2 es o k).2.1 (recK m2 es o k).2.2 ∧ AU wr gr (rowsL m2 es) ∧ Blk wr (w.heap.size + 1) 35 #[.slice none 0 0, .slice none 0 0, .int .i64 0, .int .i64 0] ∧ Below w.heap.size w wr) (fun _ i _ => m2 - (intOf i).toNat)
  case atStart => exact ⟨0, Nat.zero_le _, rfl, rfl, hRec, hR2, F2, hb2⟩
  case round =>
    obtain ⟨k, hk, rfl, rfl, hRk, hA, hF, hb⟩ := hrel
    clear hRec hR2 F2 hb2
    by_cases hlt : k < m2
    · obtain ⟨ad, v, rfl, hv, hcv⟩ := (RI.below h2 hb (Nat.le_refl _)).get hlt
      have hv0 := hper.out.2.2 v (List.mem_of_getElem? hv.out)
      obtain ⟨x, rfl⟩ := Int.eq_ofNat_of_zero_le hv0.1
      have hx64 : x < 64 := by omega
      have hl1 := lfK_lt hn o k
      have hl2 := Lib.hid (lfK_succ (n := m2) hv.out)
      rw [Int.toNat_natCast] at hl2
      have e1 := u64_clr hl1 hx64
      have hoff := fun w hT hR hA => offer_any gR gr m2 es (lfK m2 o k) (recK m2 es o k) w hT hR hA hgm.out hn hl1 (fun i hi => ((lfK_bit hn hper.out.2.2 k i).1 hi).1) hes
      have hst := Lib.hid (show recK m2 es o (k + 1) = offV es (lfK m2 o k) (recK m2 es o k) from rfl)
      replace hoff := Lib.hid hoff
      have i0 : (0 : Int) ≤ (k : Int) := Int.natCast_nonneg _
      have i1 : (k : Int) < (m2 : Int) := by omega
      have hTr := hT.keep hb
      clear hv hl1
      rw [← hl2.out] at e1
      generalize lfK m2 o k = L at *
      generalize hL2 : lfK m2 o (k + 1) = L2 at *
      replace hL2 := Lib.hid hL2
      clear hl2
      go_wp2_with fail
      (with_reducible refine (hoff.out _ hTr hRk hA).mono ?_)
      rintro e w4 ⟨rfl, hR4, hg4⟩
      have hA4 := AU.grown hA hg4 (by intro e; injection e with e; omega)
      have hF4 := Blk.grown hF hg4 (by intro e; injection e with e; omega)
      have hb4 : Below w.heap.size w w4 := hb.grown hg4 hb.size (fun k hk => by injection hk with hk; omega)
      rw [← hst.out] at hR4
      clear hRk hA hF hb hg4 hcv
      go_wp2_with fail
      refine (bit_any x hx64 _).mono ?_
      rintro e w5 ⟨rfl, rfl⟩
      go_wp2_with fail
      go_roundw
      case rel => exact ⟨k + 1, by omega, by go_num, by rw [hL2.out], hR4, hA4, hF4, hb4⟩
      case measure => simp [intOf]; omega
    · obtain rfl : k = m2 := by omega
      have hs := recK_lt hn es o k
      have hTr := hT.keep hb
      have hrr := RI.below h2 hb (Nat.le_refl _)
      have hgRl := Blk.lt hRk
      have hbs := hb.size
      clear hA
      generalize recK k es o k = r at *
      obtain ⟨rs, rN, rD⟩ := r
      simp only at hs hRk ⊢
      go_wp2_with fail
      refine (clone_any A2 k c2 o _ hrr (by omega)).mono ?_
      rintro e w4 ⟨A3, n3, c3, rfl, hc3, hr3, hb4, hf3⟩
      have hR4 := Blk.below hRk hb4 hgRl
      have hF4 := Blk.below hF hb4 hF.lt
      have hT4 := hTr.keep hb4
      have hb04 := hb.trans (hb4.mono hbs)
      have hs4 := hb4.size
      clear hb hRk hF hrr hb4
      go_wp2_with fail
      refine (peeling_any gR A3 n3 c3 o rs rN rD _ hT4 hR4 hs (Blk.lt hR4) hr3 hc3 (fun ad h e => by have := hf3 ad h; injection e with e; omega) hgt).mono ?_
      rintro e w5 ⟨A5, n5, c5, rfl, hc5, hr5, hf5, hg5⟩
      have hF5 := Blk.grown hF4 hg5 (by intro e; injection e with e; omega)
      have hr35 := RI.kept hr3 hg5 (fun ad h e => by have := hf3 ad h; injection e with e; omega)
      have hb05 : Below w.heap.size w w5 := hb04.grown hg5 hb04.size (fun k hk => by injection hk with hk; omega)
      have hs5 := hg5.size
      have z0 := Blk.cell hF5 0
      have z1 := Blk.cell hF5 1
      have z2 := Blk.cell hF5 2
      have z3 := Blk.cell hF5 3
      have y0 := Blk.frozen hF5 0
      have y1 := Blk.frozen hF5 1
      have y2 := Blk.frozen hF5 2
      have y3 := Blk.frozen hF5 3
      simp at z0 z1 z2 z3
      have hzz := Blk.set (Blk.set (Blk.set (Blk.set hF5 0 (.slice A3 n3 c3)) 1 (.slice A5 n5 c5)) 2 (.int .i64 rN)) 3 (.int .i64 (fixD rD))
      have e0 := Blk.cell hzz 0
      have e1 := Blk.cell hzz 1
      have e2 := Blk.cell hzz 2
      have e3 := Blk.cell hzz 3
      simp at e0 e1 e2 e3
      have hGz := grown_set (grown_set (grown_set (grown_set (World.grownBy.refl w5 (some (w.heap.size + 1))) 0 (.slice A3 n3 c3)) 1 (.slice A5 n5 c5)) 2 (.int .i64 rN)) 3 (.int .i64 (fixD rD))
      have hrA := RI.kept hr35 hGz (fun ad h e => by have := hf3 ad h; injection e with e; omega)
      have hrB := RI.kept hr5 hGz (fun ad h e => by have := hf5 ad h; injection e with e; omega)
      have hbz : Below w.heap.size w _ := hb05.grown hGz hb05.size (fun k hk => by injection hk with hk; omega)
      have hfA : Fr w.heap.size A3 := hf3.mono hbs
      have hfB : Fr w.heap.size A5 := hf5.mono (by omega)
      clear hR4 hF4 hT4 hb04 hr3 hr5 hr35 hg5 hF5 hzz hGz hf3 hf5
      go_wp2_with fail
      refine bodyPost_ret (v := .agg #[.slice A3 n3 c3, .slice A5 n5 c5, .int .i64 rN, .int .i64 (fixD rD)]) (by simp [results, Tryz.results22, go_sem, e0, e1, e2, e3]) rfl ?_
      exact ⟨A3, n3, c3, A5, n5, c5, rfl, hc3, hc5, hrA, hrB, hbz, hfA, hfB⟩
end Go.Proofs.YtdibfecejgjfmaaGreatDoor

namespace Go.Proofs.YtdibfecejgjfmaaGreatDoor
open Go.RowKit CoBit CoRat Rt

theorem isOrd_per {n : Nat} {es : List (Int × Int)} {o : List Int} (hz : chkG n es = 0) (h : IsOrd n es o) : Per o n := by
  have h1 := h.1 hz
  rw [Int.toNat_natCast] at h1
  exact ⟨h1.2, (ps_range h1.1).1, (ps_range h1.1).2⟩
set_option maxRecDepth 100000 in
set_option maxHeartbeats 4000000 in
theorem greedy_any (A : Option Addr) (m c : Nat) (n : Nat) (es : List (Int × Int)) (w : World) (hT : Tab w) (h : RE w A m es) (hm : m ≤ 68719476736) (hz : chkG n es = 0) (hn : n ≤ 64) :
    Calls Tryz.prog 8 #[.agg #[.int .i64 n, .slice A m c]] w fun e w' => ∃ o, IsOrd n es o ∧ Per o n ∧ RetPeE w o (bset (recK n es o n).1) (recK n es o n).2.1 (fixD (recK n es o n).2.2) 0 e w' := by
  have hgm := Lib.hid hz
  have k1 := fun w hT h => cOrder_any A m c n es w hT h hm
  rw [hz] at k1
  replace k1 := Lib.hid k1
  clear hz
  go_enter Tryz.func8, Tryz.ntmps8
  go_wp2_with fail
  refine (k1.out _ ((hT.alloc _).alloc _) ((h.alloc _).alloc _)).mono ?_
  rintro e w1 ⟨o, ⟨A1, n1, c1, rfl, hc1, hr1, hb1, hf1⟩, hO⟩
  simp only [World.size_alloc] at hb1
  have b0 : Below w.heap.size w ((w.alloc (.cells #[.int .i64 n, .slice A m c] 24)).alloc (.cells #[.slice none 0 0, .slice none 0 0, .int .i64 0, .int .i64 0] 35)) := ((Below.refl _ _).alloc (Nat.le_refl _) _).alloc (by simp) _
  have hb0 := b0.trans (hb1.mono (by omega))
  have G1 : Blk w1 w.heap.size 24 #[.int .i64 n, .slice A m c] := Blk.below ((Blk.new w _ _).alloc _) hb1 (by omega)
  have F0 : Blk w1 (w.heap.size + 1) 35 #[.slice none 0 0, .slice none 0 0, .int .i64 0, .int .i64 0] := Blk.below (Blk.new' _ _ _ (by simp)) hb1 (by omega)
  obtain ⟨d0, d1⟩ := blkG G1
  have s1 : w.heap.size + 2 ≤ w1.heap.size := by have := hb1.size; simp at this; omega
  have hper := isOrd_per hgm.out hO
  have hres := Lib.hid (⟨hO, hper⟩ : IsOrd n es o ∧ Per o n)
  have hT1 := hT.keep hb0
  have hrg := RE.below h hb0 (Nat.le_refl _)
  clear hb1 b0 k1 hO G1
  go_wp2_with fail
  refine (rest_any A m c n es A1 n1 c1 o _ hT1 hrg hm hr1 hgm.out hn hper).mono ?_
  rintro e w5 ⟨A3, n3, c3, A5, n5, c5, rfl, hc3, hc5, hr3, hr5, hb5, hf3, hf5⟩
  clear hr1 hT1 hrg d0 d1 hper
  have F5 := Blk.below F0 hb5 (by omega)
  have z0 := Blk.cell F5 0
  have z1 := Blk.cell F5 1
  have z2 := Blk.cell F5 2
  have z3 := Blk.cell F5 3
  have y0 := Blk.frozen F5 0
  have y1 := Blk.frozen F5 1
  have y2 := Blk.frozen F5 2
  have y3 := Blk.frozen F5 3
  simp at z0 z1 z2 z3
  have hzz := Blk.set (Blk.set (Blk.set (Blk.set F5 0 (.slice A3 n3 c3)) 1 (.slice A5 n5 c5)) 2 (.int .i64 (recK n es o n).2.1)) 3 (.int .i64 (fixD (recK n es o n).2.2))
  have e0 := Blk.cell hzz 0
  have e1 := Blk.cell hzz 1
  have e2 := Blk.cell hzz 2
  have e3 := Blk.cell hzz 3
  simp at e0 e1 e2 e3
  have hGz := grown_set (grown_set (grown_set (grown_set (World.grownBy.refl w5 (some (w.heap.size + 1))) 0 (.slice A3 n3 c3)) 1 (.slice A5 n5 c5)) 2 (.int .i64 (recK n es o n).2.1)) 3 (.int .i64 (fixD (recK n es o n).2.2))
  have hrA := RI.kept hr3 hGz (fun ad h e => by have := hf3 ad h; injection e with e; omega)
  have hrB := RI.kept hr5 hGz (fun ad h e => by have := hf5 ad h; injection e with e; omega)
  have hb05 := hb0.trans (hb5.mono hb0.size)
  have hbz : Below w.heap.size w _ := hb05.grown hGz hb05.size (fun k hk => by injection hk with hk; omega)
  have hfA : Fr w.heap.size A3 := hf3.mono hb0.size
  have hfB : Fr w.heap.size A5 := hf5.mono hb0.size
  clear hb0 hr3 hr5 F5 hzz hGz hf3 hf5 hb5 F0 hb05
  go_wp2_with fail
  refine bodyPost_ret (v := .tuple #[.agg #[.slice A3 n3 c3, .slice A5 n5 c5, .int .i64 (recK n es o n).2.1, .int .i64 (fixD (recK n es o n).2.2)], .int .i64 0]) (by simp [results, Tryz.results8, go_sem, e0, e1, e2, e3]) rfl ?_
  exact ⟨o, hres.out.1, hres.out.2, A3, n3, c3, A5, n5, c5, rfl, hc3, hc5, hrA, hrB, hbz, hfA, hfB⟩
set_option maxRecDepth 100000 in
set_option maxHeartbeats 4000000 in
theorem prest_any (A : Option Addr) (m c : Nat) (n : Nat) (es : List (Int × Int)) (A2 : Option Addr) (m2 c2 : Nat) (o : List Int) (w : World) (hT : Tab w) (h : RE w A m es) (hm : m ≤ 68719476736) (h2 : RI w A2 m2 o) (hz : chkG n es = 0) (hn : n ≤ 64) (ho : Per o n) :
    Calls Tryz.prog 12 #[.agg #[.int .i64 n, .slice A m c], .slice A2 m2 c2] w (RetPeE w o (bset (recK n es o n).1) (recK n es o n).2.1 (fixD (recK n es o n).2.2) 0) := by
  have hgm := Lib.hid hz
  have hper := Lib.hid ho
  have hm2 : m2 ≤ 64 := by rw [← h2.len, ho.1]; exact hn
  have k1 := fun w h h2 => asked_any A m c n es A2 m2 c2 o w h hm h2 (by omega)
  have herr : errL n es o = 0 := by unfold errL; rw [if_pos hz, if_pos (ordI_per.2 ho)]
  rw [herr] at k1
  replace k1 := Lib.hid k1
  clear hz herr ho
  go_enter Tryz.func12, Tryz.ntmps12
  go_wp2_with fail
  refine (k1.out _ ((h.alloc _).alloc _) ((h2.alloc _).alloc _)).mono ?_
  rintro e w1 ⟨rfl, hb1⟩
  simp only [World.size_alloc] at hb1
  have b0 : Below w.heap.size w ((w.alloc (.cells #[.int .i64 n, .slice A m c] 24)).alloc (.cells #[.slice none 0 0, .slice none 0 0, .int .i64 0, .int .i64 0] 35)) := ((Below.refl _ _).alloc (Nat.le_refl _) _).alloc (by simp) _
  have hb0 := b0.trans (hb1.mono (by omega))
  have G1 : Blk w1 w.heap.size 24 #[.int .i64 n, .slice A m c] := Blk.below ((Blk.new w _ _).alloc _) hb1 (by omega)
  have F0 : Blk w1 (w.heap.size + 1) 35 #[.slice none 0 0, .slice none 0 0, .int .i64 0, .int .i64 0] := Blk.below (Blk.new' _ _ _ (by simp)) hb1 (by omega)
  obtain ⟨d0, d1⟩ := blkG G1
  have s1 : w.heap.size + 2 ≤ w1.heap.size := by have := hb1.size; simp at this; omega
  have hT1 := hT.keep hb0
  have hrg := RE.below h hb0 (Nat.le_refl _)
  have hr1 := RI.below h2 hb0 (Nat.le_refl _)
  clear hb1 b0 k1 G1
  go_wp2_with fail
  refine (rest_any A m c n es A2 m2 c2 o _ hT1 hrg hm hr1 hgm.out hn hper.out).mono ?_
  rintro e w5 ⟨A3, n3, c3, A5, n5, c5, rfl, hc3, hc5, hr3, hr5, hb5, hf3, hf5⟩
  clear hr1 hT1 hrg d0 d1
  generalize (recK n es o n).2.1 = rN at *
  generalize fixD (recK n es o n).2.2 = rD at *
  generalize bset (recK n es o n).1 = rS at *
  have F5 := Blk.below F0 hb5 (by omega)
  have z0 := Blk.cell F5 0
  have z1 := Blk.cell F5 1
  have z2 := Blk.cell F5 2
  have z3 := Blk.cell F5 3
  have y0 := Blk.frozen F5 0
  have y1 := Blk.frozen F5 1
  have y2 := Blk.frozen F5 2
  have y3 := Blk.frozen F5 3
  simp at z0 z1 z2 z3
  have hzz := Blk.set (Blk.set (Blk.set (Blk.set F5 0 (.slice A3 n3 c3)) 1 (.slice A5 n5 c5)) 2 (.int .i64 rN)) 3 (.int .i64 rD)
  have e0 := Blk.cell hzz 0
  have e1 := Blk.cell hzz 1
  have e2 := Blk.cell hzz 2
  have e3 := Blk.cell hzz 3
  simp at e0 e1 e2 e3
  have hGz := grown_set (grown_set (grown_set (grown_set (World.grownBy.refl w5 (some (w.heap.size + 1))) 0 (.slice A3 n3 c3)) 1 (.slice A5 n5 c5)) 2 (.int .i64 rN)) 3 (.int .i64 rD)
  have hrA := RI.kept hr3 hGz (fun ad h e => by have := hf3 ad h; injection e with e; omega)
  have hrB := RI.kept hr5 hGz (fun ad h e => by have := hf5 ad h; injection e with e; omega)
  have hb05 := hb0.trans (hb5.mono hb0.size)
  have hbz : Below w.heap.size w _ := hb05.grown hGz hb05.size (fun k hk => by injection hk with hk; omega)
  have hfA : Fr w.heap.size A3 := hf3.mono hb0.size
  have hfB : Fr w.heap.size A5 := hf5.mono hb0.size
  clear hb0 hr3 hr5 F5 hzz hGz hf3 hf5 hb5 F0 hb05
  go_wp2_with fail
  refine bodyPost_ret (v := .tuple #[.agg #[.slice A3 n3 c3, .slice A5 n5 c5, .int .i64 rN, .int .i64 rD], .int .i64 0]) (by simp [results, Tryz.results12, go_sem, e0, e1, e2, e3]) rfl ?_
  exact ⟨A3, n3, c3, A5, n5, c5, rfl, hc3, hc5, hrA, hrB, hbz, hfA, hfB⟩
end Go.Proofs.YtdibfecejgjfmaaGreatDoor
