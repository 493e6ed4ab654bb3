/- Reference 19: Ones, Right, Sums, Loads, Bound of right splits (split off from PrdI). -/
import Derived.Test.YticekkjambkifaaGreatDoorZai
import Derived.Test.YticekkjambkifaaGreatDoorZrt
import Derived.Test.YticekkjambkifaaGreatDoorZak
import Derived.BigRegion
/- Reference 19: Ones, Right, Sums for right splits. -/
set_option linter.unusedVariables false
set_option linter.unusedSimpArgs false
namespace Go.Proofs.YticekkjambkifaaGreatDoor
open Go.RowKit CoBit CoRat Rt
set_option maxRecDepth 100000 in
set_option maxHeartbeats 1000000 in
theorem rones_any (A : Option Addr) (m c : Nat) (n : Int) (es : List (Int × Int)) (w : World) (h : RE w A m es) (hm : m ≤ 68719476736) :
    Calls Tryz.prog 14 #[.agg #[.int .i64 n, .slice A m c]] w (RetI w (List.replicate m 1)) := by
  have b0 : Below w.heap.size w (w.alloc (.cells #[.int .i64 n, .slice A m c] 24)) := (Below.refl _ w).alloc (Nat.le_refl _) _
  go_enter Tryz.func14, Tryz.ntmps14
  go_wp2_with fail
  go_loopw [3, 7] (fun v i wr => ∃ k, k ≤ m ∧ i = .int .i64 (k : Nat) ∧ OI wr w.heap.size v (List.replicate k 1) ∧ Below w.heap.size w wr) (fun _ i _ => m - (intOf i).toNat)
  case atStart => exact ⟨0, Nat.zero_le _, rfl, OI.nil_, b0⟩
  case round =>
    obtain ⟨k, hk, rfl, hO, hb⟩ := hrel
    clear b0
    have hsz := hb.size
    have hkl : (List.replicate k (1 : Int)).length ≤ 2199023255552 := by rw [List.length_replicate]; omega
    by_cases hlt : k < m
    · have i0 : (k : Int) < (m : Int) := by omega
      have hrep : List.replicate k (1 : Int) ++ [1] = List.replicate (k + 1) 1 := by rw [List.replicate_succ']
      go_wp2_with (at_builtin; refine wpList_push rfl _ _ rfl rfl rfl (by first | rfl | simp) hO hkl hsz ?_; intro v7 wd ho7 hb7 hg7; rw [hrep] at ho7; have hb8 := below_own hb hg7 hsz (own_block hO); clear hO hb hg7 hb7)
      go_roundw
      case rel => exact ⟨k + 1, by omega, by go_num, ho7, hb8⟩
      case measure => simp [intOf]; omega
    · obtain rfl : k = m := by omega
      have i0 : ¬ (k : Int) < (k : Int) := by omega
      obtain ⟨A1, n1, c1, rfl, hn1, hc1, hcm, hr1⟩ := hO.form
      have hf := hO.fresh hn1
      have hRet := Lib.hid (RetI.mk_ hc1 hr1 hb hf)
      clear hO hb hr1 hn1 hf
      go_wp2_with fail
      go_ret
      exact hRet.out
set_option maxRecDepth 100000 in
set_option maxHeartbeats 1000000 in
theorem rright_ok (A0 : Option Addr) (m c0 : Nat) (den : Int) (A : Option Addr) (c : Nat) (ps : List Int) (w : World) (h0 : RI w A0 m (List.replicate m 1)) (h : RI w A m ps) (hm : m ≤ 68719476736) (hd1 : 1 ≤ den) (hd2 : den ≤ 1048576) (hp : ∀ p ∈ ps, 0 ≤ p ∧ p ≤ den) :
    Calls Tryz.prog 36 #[.slice A0 m c0, .agg #[.int .i64 den, .slice A m c]] w fun e w' => e = .returned (.bool true) ∧ Below w.heap.size w w' := by
  have b0 : Below w.heap.size w (w.alloc (.cells #[.int .i64 den, .slice A m c] 36)) := (Below.refl _ w).alloc (Nat.le_refl _) _
  have S0 := Blk.new w 36 #[.int .i64 den, .slice A m c]
  have q0 : decide (den < 1) = false := decide_eq_false (by omega)
  have q1 : decide (1048576 < den) = false := decide_eq_false (by omega)
  have q2 : ((m : Int) != (m : Int)) = false := by simp
  go_enter Tryz.func36, Tryz.ntmps36
  go_wp2_with fail
  go_loopw [26] (fun i wr => ∃ k, k ≤ m ∧ i = .int .i64 (k : Nat) ∧ Blk wr w.heap.size 36 #[.int .i64 den, .slice A m c] ∧ Below w.heap.size w wr) (fun i _ => m - (intOf i).toNat)
  case atStart => exact ⟨0, Nat.zero_le _, rfl, S0, b0⟩
  case round =>
    obtain ⟨k, hk, rfl, hS, hb⟩ := hrel
    clear b0 S0
    by_cases hlt : k < m
    · have i0 : (k : Int) < (m : Int) := by omega
      obtain ⟨ad, p, rfl, hpv, hcp⟩ := (h.below hb (Nat.le_refl _)).get hlt
      obtain ⟨ad0, y, rfl, hyv, hcy⟩ := (h0.below hb (Nat.le_refl _)).get hlt
      have hy1 : y = 1 := by
        have := hyv.out
        rw [List.getElem?_replicate, if_pos hlt] at this
        injection this with this
        exact this.symm
      subst hy1
      have hpr := hp p (List.mem_of_getElem? hpv.out)
      have q3 : decide (p < 0) = false := decide_eq_false (by omega)
      have q4 : decide (den < p) = false := decide_eq_false (by omega)
      have t0 := Blk.cell hS 0
      simp at t0
      have j0 : (0 : Int) ≤ (k : Int) := by omega
      replace hpv := Lib.hid hpv
      go_wp2_with fail
      go_quiet (fail)
      have hS2 := hS.drewN nq
      have hb2 := below_drewN hb nq
      go_wp2_with fail
      go_roundw
      case rel => exact ⟨k + 1, by omega, by go_num, hS2, hb2⟩
      case measure => simp [intOf]; omega
    · obtain rfl : k = m := by omega
      have i0 : ¬ (k : Int) < (k : Int) := by omega
      go_wp2_with fail
      go_ret
      exact ⟨rfl, hb⟩
end Go.Proofs.YticekkjambkifaaGreatDoor

/- Reference 19: Sums: the loads of a split. -/
set_option linter.unusedVariables false
set_option linter.unusedSimpArgs false
namespace Go.Proofs.YticekkjambkifaaGreatDoor
open Go.RowKit CoBit CoRat Rt
set_option maxRecDepth 100000 in
set_option maxHeartbeats 4000000 in
theorem rsums_ok (A : Option Addr) (m c : Nat) (n : Nat) (es : List (Int × Int)) (A0 : Option Addr) (c0 : Nat) (den : Int) (A1 : Option Addr) (c1 : Nat) (ps : List Int) (w : World) (h : RE w A m es) (h0 : RI w A0 m (List.replicate m 1)) (h1 : RI w A1 m ps) (hm : m ≤ 68719476736) (hz : chkG n es = 0) (hn : n ≤ 64) (hd1 : 1 ≤ den) (hd2 : den ≤ 1048576) (hp : ∀ p ∈ ps, 0 ≤ p ∧ p ≤ den) :
    Calls Tryz.prog 41 #[.agg #[.int .i64 n, .slice A m c], .slice A0 m c0, .agg #[.int .i64 den, .slice A1 m c1]] w (RetI w (ldL n den es ps)) := by
  have hel := Lib.hid h.len
  have hlt := Lib.hid (chkE_lt (chkG_zero hz).2.2)
  obtain ⟨i0, hz0, hz1, hz2, hz3⟩ := info_parts int_info
  clear hz
  have b0 : Below w.heap.size w ((w.alloc (.cells #[.int .i64 n, .slice A m c] 24)).alloc (.cells #[.int .i64 den, .slice A1 m c1] 36)) := ((Below.refl _ w).alloc (Nat.le_refl _) _).alloc (by simp) _
  have G0 := (Blk.new w 24 #[.int .i64 n, .slice A m c]).alloc (.cells #[.int .i64 den, .slice A1 m c1] 36)
  have S0 : Blk ((w.alloc (.cells #[.int .i64 n, .slice A m c] 24)).alloc (.cells #[.int .i64 den, .slice A1 m c1] 36)) (w.heap.size + 1) 36 #[.int .i64 den, .slice A1 m c1] := Blk.new' _ _ _ (by simp)
  go_enter Tryz.func41, Tryz.ntmps41
  go_upto_region 1 with fail
  generalize hw1 : (w.alloc (.cells #[.int .i64 n, .slice A m c] 24)).alloc (.cells #[.int .i64 den, .slice A1 m c1] 36) = w1 at *
  clear hw1
  have s1 := S0.lt
  obtain ⟨d0, d1⟩ := blkG G0
  go_upto_region 2 with (at_make; refine wpList_makeI rfl _ _ rfl rfl rfl (n := n) (by omega) (by omega) (by omega) ?_; intro w2 hA2 hg2)
  have hb2 := grown_none_below hg2 w1.heap.size (Nat.le_refl _)
  have G2 := G0.below hb2 G0.lt
  have S2 := S0.below hb2 S0.lt
  have B2 := b0.trans (hb2.mono b0.size)
  have sgp := b0.size
  have sgs := S0.lt
  have hs0 : LdO n den es ps 0 (List.replicate n 0) := ldO_start _ _ _ _
  clear hg2 hb2 G0 S0 d0 d1 b0
  generalize w1.heap.size = gp at *
  obtain ⟨d0, d1⟩ := blkG G2
  go_wp2_with fail
  go_loopw [16] (fun i wr => ∃ (k : Nat) (xs : List Int), k ≤ m ∧ i = .int .i64 k ∧ AI wr gp xs ∧ Hid (LdO n den es ps k xs) ∧ Blk wr (w.heap.size + 1) 36 #[.int .i64 den, .slice A1 m c1] ∧ Below w.heap.size w wr) (fun i _ => m - (intOf i).toNat)
  case atStart => exact ⟨0, _, Nat.zero_le _, rfl, hA2, Lib.hid hs0, S2, B2⟩
  case round =>
    obtain ⟨k, xs, hk, rfl, hA, hx, hS, hb⟩ := hrel
    clear hA2 hs0 S2 B2 G2 d0 d1
    by_cases hlt2 : k < m
    · have i1 : (k : Int) < (m : Int) := by omega
      have j0 : (0 : Int) ≤ (k : Int) := by omega
      obtain ⟨ad, u, v, rfl, hab, he, e0, e1⟩ := (h.below hb (Nat.le_refl _)).get hlt2
      have hr := hlt.out _ (List.mem_of_getElem? he.out)
      simp only at hr
      obtain ⟨u, rfl⟩ := Int.eq_ofNat_of_zero_le (show 0 ≤ u by omega)
      obtain ⟨v, rfl⟩ := Int.eq_ofNat_of_zero_le (show 0 ≤ v by omega)
      have huv : u < v := by omega
      have hvn : v < n := by omega
      have hgA := hA.lt
      have hgS := hS.lt
      have X1 := Blk.new wr 59 #[.int .i64 u, .int .i64 v]
      have S1 := hS.alloc (.cells #[.int .i64 u, .int .i64 v] 59)
      have A1' := hA.alloc (.cells #[.int .i64 u, .int .i64 v] 59)
      have B1 := hb.alloc hb.size (.cells #[.int .i64 u, .int .i64 v] 59)
      clear hS hA hb
      go_upto_region 5 with fail
      have sz1 : wr.heap.size < (wr.alloc (.cells #[.int .i64 u, .int .i64 v] 59)).heap.size := by simp
      clear e0 e1
      generalize hwx : wr.alloc (.cells #[.int .i64 u, .int .i64 v] 59) = wx at *
      clear hwx
      generalize wr.heap.size = gX at *
      obtain ⟨adp, p, rfl, hpv, hcp⟩ := (h1.below B1 (Nat.le_refl _)).get hlt2
      have hpr := hp p (List.mem_of_getElem? hpv.out)
      have hst := Lib.hid (ldO_step hx.out he.out hpv.out huv hvn hpr.1 hpr.2 hd2)
      obtain ⟨-, x2, x3⟩ := hx.out.2 u (by omega)
      obtain ⟨-, z2, z3⟩ := hx.out.2 v hvn
      have hxl := hx.out.1
      have p0 := A1'.cell (i := u) (by omega)
      have p1 := A1'.frozen u
      have t0 := Blk.cell S1 0
      have t1 := Blk.cell S1 1
      have y0 := Blk.cell X1 0
      simp at t0 t1 y0
      have j1 : (0 : Int) ≤ (u : Int) := by omega
      have j2 : (u : Int) < (n : Int) := by omega
      have j3 : (0 : Int) ≤ (v : Int) := by omega
      have j4 : (v : Int) < (n : Int) := by omega
      have xs0 : -9223372036854775808 ≤ xs.getD u 0 + p := by omega
      have xs1 : xs.getD u 0 + p ≤ 9223372036854775807 := by omega
      generalize hxu : xs.getD u 0 = XU at *
      have S2' := S1.far (p := ⟨gp, u, none⟩) (show w.heap.size + 1 ≠ gp by omega) (.int .i64 (XU + p))
      have X2' := X1.far (p := ⟨gp, u, none⟩) (show gX ≠ gp by omega) (.int .i64 (XU + p))
      have A2' := A1'.set u (XU + p)
      have B2' := B1.setCell (p := ⟨gp, u, none⟩) (by simp; omega) (.int .i64 (XU + p))
      replace S2' := Lib.hid S2'
      replace X2' := Lib.hid X2'
      replace A2' := Lib.hid A2'
      replace B2' := Lib.hid B2'
      clear S1 X1 A1' B1
      go_region
      go_upto_region 6 with fail
      clear p0 p1 t0 t1 y0 hcp
      have S3 := S2'.out.drew
      have X3 := X2'.out.drew
      have A3 := A2'.out.drew
      have B3 := B2'.out.drew
      have szy : gX < ((wx.setCell ⟨gp, u, none⟩ (.int .i64 (XU + p))).drew).heap.size := X3.lt
      clear S2' X2' A2' B2'
      generalize hwy : (wx.setCell ⟨gp, u, none⟩ (.int .i64 (XU + p))).drew = wy at *
      clear hwy
      obtain ⟨adq, p', hadq, hpq, hcq⟩ := (h1.below B3 (Nat.le_refl _)).get hlt2
      injection hadq with hadq
      subst hadq
      have hpp : p' = p := by
        have h1 := hpq.out
        rw [hpv.out] at h1
        injection h1 with h1
        exact h1.symm
      subst hpp
      obtain ⟨ad0, y, rfl, hyv, hcy⟩ := (h0.below B3 (Nat.le_refl _)).get hlt2
      have hy1 : y = 1 := by
        have := hyv.out
        rw [List.getElem?_replicate, if_pos hlt2] at this
        injection this with this
        exact this.symm
      subst hy1
      have hgv : (xs.set u (XU + p')).getD v 0 = xs.getD v 0 := by rw [getD_set (by omega), if_neg (by omega)]
      have p0 := A3.cell (i := v) (by rw [List.length_set]; omega)
      rw [hgv] at p0
      have p1 := A3.frozen v
      have t0 := Blk.cell S3 0
      have t1 := Blk.cell S3 1
      have y0 := Blk.cell X3 1
      simp at t0 t1 y0
      clear hgv
      generalize hxv : xs.getD v 0 = XV at *
      have S4 := S3.far (p := ⟨gp, v, none⟩) (show w.heap.size + 1 ≠ gp by omega) (.int .i64 (XV + (den - p')))
      have A4 := A3.set v (XV + (den - p'))
      have B4 := B3.setCell (p := ⟨gp, v, none⟩) (by simp; omega) (.int .i64 (XV + (den - p')))
      have hfin := Lib.hid (And.intro S4 (And.intro A4 B4))
      replace hst := hst
      clear S3 X3 A3 B3 S4 A4 B4 hpq hyv hpv
      go_region
      go_wp2_with fail
      go_roundw
      case rel => exact ⟨k + 1, _, by omega, by go_num, hfin.out.2.1.drew, hst, hfin.out.1.drew, hfin.out.2.2.drew⟩
      case measure => simp [intOf]; omega
    · obtain rfl : k = m := by omega
      have i1 : ¬ (k : Int) < (k : Int) := by omega
      have hfin : xs = ldL n den es ps := ldO_end (by rw [hel.out]; exact hx.out)
      have hxl := hx.out.1
      have hRet := Lib.hid (RetI.mk_ (Nat.le_refl _) (hfin ▸ hA.ri hxl.symm) hb (fun ad e => by injection e with e; subst e; exact sgp))
      clear hA hS hb hfin
      go_wp2_with fail
      go_ret
      exact hRet.out
end Go.Proofs.YticekkjambkifaaGreatDoor

/- Reference 19: Loads and Bound of right splits; both Limit, with and without an error. -/
set_option linter.unusedVariables false
set_option linter.unusedSimpArgs false
namespace Go.Proofs.YticekkjambkifaaGreatDoor
open Go.RowKit CoBit CoRat Rt
def RetLE (w : World) (ys : List Int) (err : Int) (e : Ending) (w' : World) : Prop := ∃ A n c, e = .returned (.tuple #[.slice A n c, .int .i64 err]) ∧ n ≤ c ∧ RI w' A n ys ∧ Below w.heap.size w w'
theorem mkN_one {a : Int} (h0 : 0 ≤ a) (h1 : a ≤ 1152921504606846976) : mkN a 1 = a := by
  obtain ⟨a, rfl⟩ := Int.eq_ofNat_of_zero_le h0
  have hf : fits a 1 = true := by
    unfold fits
    rw [Nat.gcd_one_right, Nat.div_one]
    exact decide_eq_true ⟨by unfold M; omega, by decide⟩
  unfold mkN redN
  rw [if_neg (by decide)]
  show (if fits (a : Int).natAbs (1 : Int).natAbs = true then _ else _) = _
  rw [Int.natAbs_natCast, show (1 : Int).natAbs = 1 from rfl, if_pos hf, Nat.gcd_one_right, Nat.div_one]
  have : (decide ((a : Int) < 0) != decide ((1 : Int) < 0)) = false := by
    rw [decide_eq_false (by omega), decide_eq_false (by omega)]; rfl
  rw [this]; rfl
set_option maxRecDepth 100000 in
set_option maxHeartbeats 2000000 in
theorem rloads_ok (A : Option Addr) (m c : Nat) (n : Nat) (es : List (Int × Int)) (den : Int) (A1 : Option Addr) (c1 : Nat) (ps : List Int) (w : World) (h : RE w A m es) (h1 : RI w A1 m ps) (hm : m ≤ 68719476736) (hz : chkG n es = 0) (hn : n ≤ 64) (hd1 : 1 ≤ den) (hd2 : den ≤ 1048576) (hp : ∀ p ∈ ps, 0 ≤ p ∧ p ≤ den) :
    Calls Tryz.prog 17 #[.agg #[.int .i64 n, .slice A m c], .agg #[.int .i64 den, .slice A1 m c1]] w (RetLE w (ldL n den es ps) 0) := by
  have ck := fun w h => rcheck_any A m c n es w h (by omega)
  rw [hz] at ck
  replace ck := Lib.hid ck
  have ko := Lib.hid (fun w h => rones_any A m c (n : Int) es w h hm)
  have kr := Lib.hid (fun A0 c0 w h0 h => rright_ok A0 m c0 den A1 c1 ps w h0 h hm hd1 hd2 hp)
  have ks := Lib.hid (fun A0 c0 w h h0 h1 => rsums_ok A m c n es A0 c0 den A1 c1 ps w h h0 h1 hm hz hn hd1 hd2 hp)
  generalize ldL n den es ps = LL at *
  clear hz hp
  have B0 : Below w.heap.size w ((w.alloc (.cells #[.int .i64 n, .slice A m c] 24)).alloc (.cells #[.int .i64 den, .slice A1 m c1] 36)) := ((Below.refl _ w).alloc (Nat.le_refl _) _).alloc (by simp) _
  have G0 := (Blk.new w 24 #[.int .i64 n, .slice A m c]).alloc (.cells #[.int .i64 den, .slice A1 m c1] 36)
  have S0 : Blk ((w.alloc (.cells #[.int .i64 n, .slice A m c] 24)).alloc (.cells #[.int .i64 den, .slice A1 m c1] 36)) (w.heap.size + 1) 36 #[.int .i64 den, .slice A1 m c1] := Blk.new' _ _ _ (by simp)
  go_enter Tryz.func17, Tryz.ntmps17
  go_wp2_with fail
  refine (ck.out _ ((h.alloc _).alloc _)).mono ?_
  rintro e w1 ⟨rfl, hb1⟩
  have G1 := G0.below hb1 G0.lt
  have S1 := S0.below hb1 S0.lt
  have B1 := B0.trans (hb1.mono B0.size)
  have hE1 := h.below B1 (Nat.le_refl _)
  have hP1 := h1.below B1 (Nat.le_refl _)
  clear G0 S0 B0 hb1 ck h h1
  have g0 := Blk.cell G1 0
  have g1 := Blk.cell G1 1
  have s0 := Blk.cell S1 0
  have s1 := Blk.cell S1 1
  simp at g0 g1 s0 s1
  have gl := G1.lt
  have sl := S1.lt
  go_upto_region 4 with fail
  go_region_held3 (fun w' => w'.cell? ⟨w.heap.size, 0, none⟩ = some (.int .i64 n) ∧ w'.cell? ⟨w.heap.size, 1, none⟩ = some (.slice A m c) ∧ w'.cell? ⟨w.heap.size + 1, 0, none⟩ = some (.int .i64 den) ∧ w'.cell? ⟨w.heap.size + 1, 1, none⟩ = some (.slice A1 m c1))
    ((first | (exact ⟨hbb gl g0, hbb gl g1, hbb sl s0, hbb sl s1⟩) | (exact ⟨hba gl g0, hba gl g1, hba sl s0, hba sl s1⟩) | go_keep))
    ((first
      | (go_at_call 14; refine (ko.out _ hE1.drew).mono ?_; rintro e wa ⟨A0, n0, c0, rfl, hn0, hr0, hb0, hf0⟩
         have hba : ∀ {b o : Nat} {v : Value}, b < w1.heap.size → w1.cell? ⟨b, o, none⟩ = some v → wa.cell? ⟨b, o, none⟩ = some v := fun hb hv => (hb0.cell (p := ⟨_, _, none⟩) hb).trans hv
         obtain rfl : m = n0 := by have := hr0.len; rw [List.length_replicate] at this; exact this)
      | (go_at_call 36; refine (kr.out _ _ _ hr0 (hP1.drew.below hb0 (Nat.le_refl _))).mono ?_; rintro e wb ⟨rfl, hb2⟩
         have hbb : ∀ {b o : Nat} {v : Value}, b < w1.heap.size → w1.cell? ⟨b, o, none⟩ = some v → wb.cell? ⟨b, o, none⟩ = some v := fun hb hv => (hb2.cell (p := ⟨_, _, none⟩) (Nat.lt_of_lt_of_le hb hb0.size)).trans (hba hb hv))
      | fail))
  have X := (below_drewN (Below.refl w1.heap.size w1) 1).trans (hb0.trans (hb2.mono hb0.size))
  have G2 := G1.below X gl
  have S2 := S1.below X sl
  have B2 := B1.trans (X.mono B1.size)
  have hE2 := hE1.below X (Nat.le_refl _)
  have hP2 := hP1.below X (Nat.le_refl _)
  clear g0 g1 s0 s1 hba hbb X hb0 hb2 hr0 hf0 G1 S1 B1 hE1 hP1 gl sl kr
  have g0 := Blk.cell G2 0
  have g1 := Blk.cell G2 1
  have s0 := Blk.cell S2 0
  have s1 := Blk.cell S2 1
  simp at g0 g1 s0 s1
  have gl := G2.lt
  have sl := S2.lt
  go_upto_region 6 with fail
  go_region_held3 (fun w' => w'.cell? ⟨w.heap.size, 0, none⟩ = some (.int .i64 n) ∧ w'.cell? ⟨w.heap.size, 1, none⟩ = some (.slice A m c) ∧ w'.cell? ⟨w.heap.size + 1, 0, none⟩ = some (.int .i64 den) ∧ w'.cell? ⟨w.heap.size + 1, 1, none⟩ = some (.slice A1 m c1))
    ((first | (exact ⟨hbb gl g0, hbb gl g1, hbb sl s0, hbb sl s1⟩) | (exact ⟨hba gl g0, hba gl g1, hba sl s0, hba sl s1⟩) | go_keep))
    ((first
      | (go_at_call 14; refine (ko.out _ hE2.drew).mono ?_; rintro e wc ⟨A2, n2, c2, rfl, hn2, hr2, hb3, hf2⟩
         have hba : ∀ {b o : Nat} {v : Value}, b < wb.heap.size → wb.cell? ⟨b, o, none⟩ = some v → wc.cell? ⟨b, o, none⟩ = some v := fun hb hv => (hb3.cell (p := ⟨_, _, none⟩) hb).trans hv
         obtain rfl : m = n2 := by have := hr2.len; rw [List.length_replicate] at this; exact this)
      | (go_at_call 41; refine (ks.out _ _ _ (hE2.drew.below hb3 (Nat.le_refl _)) hr2 (hP2.drew.below hb3 (Nat.le_refl _))).mono ?_; rintro e wd ⟨A3, n3, c3, rfl, hn3, hr3, hb4, hf3⟩
         have hbb : ∀ {b o : Nat} {v : Value}, b < wb.heap.size → wb.cell? ⟨b, o, none⟩ = some v → wd.cell? ⟨b, o, none⟩ = some v := fun hb hv => (hb4.cell (p := ⟨_, _, none⟩) (Nat.lt_of_lt_of_le hb hb3.size)).trans (hba hb hv))
      | fail))
  go_wp2_with fail
  go_ret2
  exact ⟨A3, n3, c3, rfl, hn3, hr3, B2.trans (((below_drewN (Below.refl wb.heap.size wb) 1).trans (hb3.trans (hb4.mono hb3.size))).mono B2.size)⟩
set_option maxRecDepth 100000 in
set_option maxHeartbeats 2000000 in
theorem rbound_ok (A : Option Addr) (m c : Nat) (n : Nat) (es : List (Int × Int)) (den : Int) (A1 : Option Addr) (c1 : Nat) (ps : List Int) (w : World) (h : RE w A m es) (h1 : RI w A1 m ps) (hm : m ≤ 68719476736) (hz : chkG n es = 0) (hn : n ≤ 64) (hd1 : 1 ≤ den) (hd2 : den ≤ 1048576) (hp : ∀ p ∈ ps, 0 ≤ p ∧ p ≤ den) :
    Calls Tryz.prog 19 #[.agg #[.int .i64 n, .slice A m c], .agg #[.int .i64 den, .slice A1 m c1]] w fun e w' => e = .returned (.tuple #[.agg #[.int .i64 (mkN (maxL (ldL n den es ps)) den), .int .i64 (mkD (maxL (ldL n den es ps)) den)], .int .i64 0]) ∧ Below w.heap.size w w' := by
  have kl := Lib.hid (fun w h h1 => rloads_ok A m c n es den A1 c1 ps w h h1 hm hz hn hd1 hd2 hp)
  have hll : (ldL n den es ps).length = n := by unfold ldL; simp
  have hbd : ∀ x ∈ ldL n den es ps, 0 ≤ x ∧ x ≤ 1152921504606846976 := fun x hx => by
    have h1 := ldL_bd (by omega) hp x hx
    have h2 := h.len
    have h3 : (es.length : Int) * (2 * den) ≤ 68719476736 * 2097152 := Int.mul_le_mul (by omega) (by omega) (by omega) (by omega)
    omega
  generalize ldL n den es ps = LL at *
  clear hz hp
  have hmx : 0 ≤ maxL LL ∧ maxL LL ≤ 1152921504606846976 := ⟨maxL_nonneg _, maxL_le (by omega) (fun x hx => (hbd x hx).2)⟩
  have kof := Lib.hid (fun w => of_f (maxL LL) den w (by omega) (by omega) (by omega) (by omega))
  have B0 : Below w.heap.size w (((w.alloc (.cells #[.int .i64 n, .slice A m c] 24)).alloc (.cells #[.int .i64 den, .slice A1 m c1] 36)).alloc (.cells #[.int .i64 0, .int .i64 0] 34)) := (((Below.refl _ w).alloc (Nat.le_refl _) _).alloc (by simp) _).alloc (by simp; omega) _
  have S0 : Blk (((w.alloc (.cells #[.int .i64 n, .slice A m c] 24)).alloc (.cells #[.int .i64 den, .slice A1 m c1] 36)).alloc (.cells #[.int .i64 0, .int .i64 0] 34)) (w.heap.size + 1) 36 #[.int .i64 den, .slice A1 m c1] := (Blk.new' _ _ _ (by simp)).alloc _
  have F0 : Blk (((w.alloc (.cells #[.int .i64 n, .slice A m c] 24)).alloc (.cells #[.int .i64 den, .slice A1 m c1] 36)).alloc (.cells #[.int .i64 0, .int .i64 0] 34)) (w.heap.size + 1 + 1) 34 #[.int .i64 0, .int .i64 0] := Blk.new' _ _ _ (by simp)
  go_enter Tryz.func19, Tryz.ntmps19
  go_wp2_with fail
  refine (kl.out _ (((h.alloc _).alloc _).alloc _) (((h1.alloc _).alloc _).alloc _)).mono ?_
  rintro e w1 ⟨A2, n2, c2, rfl, hn2, hr2, hb1⟩
  obtain rfl : n = n2 := by rw [← hll]; exact hr2.len
  have S1 := S0.below hb1 S0.lt
  have F1 := F0.below hb1 F0.lt
  have B1 := B0.trans (hb1.mono B0.size)
  have z1 : w.heap.size + 1 + 1 < w1.heap.size := F1.lt
  clear S0 F0 B0 hb1 kl
  replace hmx := Lib.hid hmx
  replace hbd := Lib.hid hbd
  go_wp2_with fail
  go_loopw [8, 23] (fun u i wr => ∃ k : Nat, k ≤ n ∧ i = .int .i64 k ∧ u = .int .i64 (maxL (LL.take k)) ∧ wr = w1) (fun _ i _ => n - (intOf i).toNat)
  case atStart => exact ⟨0, Nat.zero_le _, rfl, rfl, rfl⟩
  case round =>
    obtain ⟨k, hk, rfl, rfl, hwr⟩ := hrel
    obtain rfl := hwr.symm
    by_cases hlt : k < n
    · have i0 : (k : Int) < (n : Int) := by omega
      have j0 : (0 : Int) ≤ (k : Int) := by omega
      obtain ⟨ad, x, rfl, hx, hcx⟩ := hr2.get hlt
      have hmt := Lib.hid (maxL_take hx.out)
      go_wp2_with fail
      go_roundw
      case rel => exact ⟨k + 1, by omega, by go_num, by rw [hmt.out]; first | rfl | (congr 1; omega), by first | trivial | rfl⟩
      case measure => simp [intOf]; omega
    · obtain rfl : n = k := by omega
      have i0 : ¬ (n : Int) < (n : Int) := by omega
      have htk : LL.take n = LL := List.take_of_length_le (by omega)
      rw [htk]
      clear hbd hr2 htk
      have s0 := Blk.cell S1 0
      simp at s0
      go_wp2_with fail
      refine (kof.out _).mono ?_
      rintro e w2 ⟨rfl, hb2⟩
      have F2 := F1.below hb2 F1.lt
      have B2 := B1.trans (hb2.mono B1.size)
      have z2 : w.heap.size + 1 + 1 < w2.heap.size := F2.lt
      clear F1 B1 hb2 s0 S1
      obtain ⟨FN, hFN⟩ : ∃ x, x = mkN (maxL LL) den := ⟨_, rfl⟩
      obtain ⟨FD, hFD⟩ : ∃ x, x = mkD (maxL LL) den := ⟨_, rfl⟩
      rw [← hFN, ← hFD]
      have hpk := Lib.hid (And.intro hFN hFD)
      clear hFN hFD kof hmx
      have y0 := Blk.cell F2 0
      have y1 := Blk.cell F2 1
      have f0 := Blk.frozen F2 0
      have f1 := Blk.frozen F2 1
      simp at y0 y1
      have hzz := Blk.set (Blk.set F2 0 (.int .i64 FN)) 1 (.int .i64 FD)
      have e0 := Blk.cell hzz 0
      have e1 := Blk.cell hzz 1
      simp at e0 e1
      have hbz := B2.grown (grown_set (grown_set (World.grownBy.refl w2 (some (w.heap.size + 1 + 1))) 0 (.int .i64 FN)) 1 (.int .i64 FD)) B2.size (fun k hk => by injection hk with hk; omega)
      clear hzz F2 B2
      go_wp2_with fail
      refine bodyPost_ret (v := .tuple #[.agg #[.int .i64 FN, .int .i64 FD], .int .i64 0]) (by simp [results, Tryz.results19, go_sem, e0, e1]) rfl ?_
      exact ⟨by rw [← hpk.out.1, ← hpk.out.2], hbz⟩
end Go.Proofs.YticekkjambkifaaGreatDoor
