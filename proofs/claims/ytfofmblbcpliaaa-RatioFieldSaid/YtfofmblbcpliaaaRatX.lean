/- RatioField: the walk. -/
import Derived.Test.YtfofmblbcpliaaaRatW
set_option linter.unusedVariables false
namespace Go.Proofs.Ytfofmblbcpliaaa
open Go.RowKit CoRat

set_option maxHeartbeats 4000000 in
theorem field_walk (a b c d e f : Int) (w : World) (xn xd yn yd zn zd : Int)
    (ex : xn = mkN (a % 41 - 20) (1 + b % 12)) (ex' : xd = mkD (a % 41 - 20) (1 + b % 12)) (ey : yn = mkN (c % 41 - 20) (1 + d % 12)) (ey' : yd = mkD (c % 41 - 20) (1 + d % 12)) (ez : zn = mkN (e % 41 - 20) (1 + f % 12)) (ez' : zd = mkD (e % 41 - 20) (1 + f % 12)) :
    Calls Try.prog 6 #[.int .i64 a, .int .i64 b, .int .i64 c, .int .i64 d, .int .i64 e, .int .i64 f] w fun e w' => e = .returned (.bool true) ∧ Below w.heap.size w w' := by
  have sx := fun w => small_any a b w
  have sy := fun w => small_any c d w
  have sz := fun w => small_any e f w
  rw [← ex, ← ex'] at sx
  rw [← ey, ← ey'] at sy
  rw [← ez, ← ez'] at sz
  obtain ⟨m1, m2, m3, m4, m5, m6, m7, m8, m9, m10, m11, m12, m13, m14, m15⟩ := field_math xn xd yn yd zn zd _ _ _ _ _ _ (by rw [ex, ex']; exact small_val a b) (by rw [ey, ey']; exact small_val c d) (by rw [ez, ez']; exact small_val e f)
  clear ex ex' ey ey' ez ez'
  have k1 := fun w => add_any xn xd yn yd w
  have k2 := fun w => add_any yn yd xn xd w
  rw [m1] at k1
  rw [m2, ← m3, ← m4] at k2
  generalize addN xn xd yn yd = sn at *
  generalize addD xn xd yn yd = sd at *
  have k3 := fun w => mul_any sn sd zn zd w
  rw [m5] at k3
  have k4 := fun w => mul_any xn xd zn zd w
  rw [m6] at k4
  have k5 := fun w => mul_any yn yd zn zd w
  rw [m7] at k5
  have k6 := fun w => add_any (mulN xn xd zn zd) (mulD xn xd zn zd) (mulN yn yd zn zd) (mulD yn yd zn zd) w
  rw [m8, ← m9, ← m10] at k6
  have k7 := fun w => sub_any sn sd yn yd w
  rw [m11, m12, m13] at k7
  have k8 := fun w => div_any (mulN xn xd zn zd) (mulD xn xd zn zd) zn zd w
  generalize mulN sn sd zn zd = un at *
  generalize mulD sn sd zn zd = ud at *
  generalize mulN xn xd zn zd = pn at *
  generalize mulD xn xd zn zd = pd at *
  generalize mulN yn yd zn zd = qn at *
  generalize mulD yn yd zn zd = qd at *
  replace k1 := Lib.hid k1
  replace k2 := Lib.hid k2
  replace k3 := Lib.hid k3
  replace k4 := Lib.hid k4
  replace k5 := Lib.hid k5
  replace k6 := Lib.hid k6
  replace k7 := Lib.hid k7
  replace sx := Lib.hid sx
  replace sy := Lib.hid sy
  replace sz := Lib.hid sz
  by_cases hz : zn = 0
  case' pos =>
    rw [m14 hz] at k8
    have hzb : (zn == 0) = true := by simpa using hz
  case' neg =>
    rw [(m15 hz).1, (m15 hz).2.1, (m15 hz).2.2] at k8
    have hzb : (zn == 0) = false := by simpa using hz
  all_goals
    replace k8 := Lib.hid k8
    clear hz m1 m2 m3 m4 m5 m6 m7 m8 m9 m10 m11 m12 m13 m14 m15
    go_enter Try.func6, Try.ntmps6
    go_wp2_with fail
    refine (sx.out _).mono ?_; rintro e w1 ⟨rfl, hb1⟩
    have z1 := hb1.size
    have BW : Below w.heap.size w w1 := hb1
    have y1 := BW.size
    clear hb1
    go_wp2_with fail
    refine (sy.out _).mono ?_; rintro e w2 ⟨rfl, hb2⟩
    have z2 := hb2.size
    replace BW : Below w.heap.size w w2 := BW.trans (hb2.mono (by first | omega | (simp; omega)))
    have y2 := BW.size
    clear hb2 z1 y1
    go_wp2_with fail
    refine (sz.out _).mono ?_; rintro e w3 ⟨rfl, hb3⟩
    have z3 := hb3.size
    replace BW : Below w.heap.size w w3 := BW.trans (hb3.mono (by first | omega | (simp; omega)))
    have y3 := BW.size
    clear hb3 z2 y2
    go_wp2_with fail
    refine (k1.out _).mono ?_; rintro e w4 ⟨rfl, hb4⟩
    have z4 := hb4.size
    simp at z4
    have Bx : Blk w4 (w3.heap.size) 23 #[.int .i64 xn, .int .i64 xd] := Blk.below (Blk.alloc (Blk.alloc (Blk.new' w3 _ _ (by simp)) _) _) hb4 (by first | (simp; done) | (simp; omega))
    have By : Blk w4 (w3.heap.size + 1) 23 #[.int .i64 yn, .int .i64 yd] := Blk.below (Blk.alloc (Blk.new' (w3.alloc _) _ _ (by simp)) _) hb4 (by first | (simp; done) | (simp; omega))
    have Bz : Blk w4 (w3.heap.size + 1 + 1) 23 #[.int .i64 zn, .int .i64 zd] := Blk.below (Blk.new' ((w3.alloc _).alloc _) _ _ (by simp)) hb4 (by first | (simp; done) | (simp; omega))
    replace BW : Below w.heap.size w w4 := (((BW.alloc (by first | omega | (simp; omega)) _).alloc (by first | omega | (simp; omega)) _).alloc (by first | omega | (simp; omega)) _).trans (hb4.mono (by first | omega | (simp; omega)))
    have y4 := BW.size
    clear hb4 z3 y3
    have cx0 := Blk.cell Bx 0
    have cx1 := Blk.cell Bx 1
    simp at cx0 cx1
    have lx := Blk.lt Bx
    have cy0 := Blk.cell By 0
    have cy1 := Blk.cell By 1
    simp at cy0 cy1
    have ly := Blk.lt By
    have cz0 := Blk.cell Bz 0
    have cz1 := Blk.cell Bz 1
    simp at cz0 cz1
    have lz := Blk.lt Bz
    go_wp2_with fail
    refine (k2.out _).mono ?_; rintro e w5 ⟨rfl, hb5⟩
    have z5 := hb5.size
    simp at z5
    replace Bx := Blk.below (Blk.alloc Bx _) hb5 (by have := Blk.lt Bx; first | (simp; done) | (simp; omega))
    replace By := Blk.below (Blk.alloc By _) hb5 (by have := Blk.lt By; first | (simp; done) | (simp; omega))
    replace Bz := Blk.below (Blk.alloc Bz _) hb5 (by have := Blk.lt Bz; first | (simp; done) | (simp; omega))
    have Bs : Blk w5 (w4.heap.size) 23 #[.int .i64 sn, .int .i64 sd] := Blk.below (Blk.new' w4 _ _ (by simp)) hb5 (by first | (simp; done) | (simp; omega))
    replace BW : Below w.heap.size w w5 := (BW.alloc (by first | omega | (simp; omega)) _).trans (hb5.mono (by first | omega | (simp; omega)))
    have y5 := BW.size
    clear hb5 z4 y4 cx0 cx1 lx cy0 cy1 ly cz0 cz1 lz
    have cx0 := Blk.cell Bx 0
    have cx1 := Blk.cell Bx 1
    simp at cx0 cx1
    have lx := Blk.lt Bx
    have cy0 := Blk.cell By 0
    have cy1 := Blk.cell By 1
    simp at cy0 cy1
    have ly := Blk.lt By
    have cz0 := Blk.cell Bz 0
    have cz1 := Blk.cell Bz 1
    simp at cz0 cz1
    have lz := Blk.lt Bz
    have cs0 := Blk.cell Bs 0
    have cs1 := Blk.cell Bs 1
    simp at cs0 cs1
    have ls := Blk.lt Bs
    go_wp2_with fail
    refine (k3.out _).mono ?_; rintro e w6 ⟨rfl, hb6⟩
    have z6 := hb6.size
    simp at z6
    replace Bx := Blk.below (Blk.alloc Bx _) hb6 (by have := Blk.lt Bx; first | (simp; done) | (simp; omega))
    replace By := Blk.below (Blk.alloc By _) hb6 (by have := Blk.lt By; first | (simp; done) | (simp; omega))
    replace Bz := Blk.below (Blk.alloc Bz _) hb6 (by have := Blk.lt Bz; first | (simp; done) | (simp; omega))
    replace Bs := Blk.below (Blk.alloc Bs _) hb6 (by have := Blk.lt Bs; first | (simp; done) | (simp; omega))
    have Bt : Blk w6 (w5.heap.size) 23 #[.int .i64 sn, .int .i64 sd] := Blk.below (Blk.new' w5 _ _ (by simp)) hb6 (by first | (simp; done) | (simp; omega))
    replace BW : Below w.heap.size w w6 := (BW.alloc (by first | omega | (simp; omega)) _).trans (hb6.mono (by first | omega | (simp; omega)))
    have y6 := BW.size
    clear hb6 z5 y5 cx0 cx1 lx cy0 cy1 ly cz0 cz1 lz cs0 cs1 ls
    have cx0 := Blk.cell Bx 0
    have cx1 := Blk.cell Bx 1
    simp at cx0 cx1
    have lx := Blk.lt Bx
    have cy0 := Blk.cell By 0
    have cy1 := Blk.cell By 1
    simp at cy0 cy1
    have ly := Blk.lt By
    have cz0 := Blk.cell Bz 0
    have cz1 := Blk.cell Bz 1
    simp at cz0 cz1
    have lz := Blk.lt Bz
    have cs0 := Blk.cell Bs 0
    have cs1 := Blk.cell Bs 1
    simp at cs0 cs1
    have ls := Blk.lt Bs
    have ct0 := Blk.cell Bt 0
    have ct1 := Blk.cell Bt 1
    simp at ct0 ct1
    have lt := Blk.lt Bt
    go_wp2_with fail
    refine (k4.out _).mono ?_; rintro e w7 ⟨rfl, hb7⟩
    have z7 := hb7.size
    simp at z7
    replace Bx := Blk.below (Blk.alloc Bx _) hb7 (by have := Blk.lt Bx; first | (simp; done) | (simp; omega))
    replace By := Blk.below (Blk.alloc By _) hb7 (by have := Blk.lt By; first | (simp; done) | (simp; omega))
    replace Bz := Blk.below (Blk.alloc Bz _) hb7 (by have := Blk.lt Bz; first | (simp; done) | (simp; omega))
    replace Bs := Blk.below (Blk.alloc Bs _) hb7 (by have := Blk.lt Bs; first | (simp; done) | (simp; omega))
    replace Bt := Blk.below (Blk.alloc Bt _) hb7 (by have := Blk.lt Bt; first | (simp; done) | (simp; omega))
    have Bu : Blk w7 (w6.heap.size) 23 #[.int .i64 un, .int .i64 ud] := Blk.below (Blk.new' w6 _ _ (by simp)) hb7 (by first | (simp; done) | (simp; omega))
    replace BW : Below w.heap.size w w7 := (BW.alloc (by first | omega | (simp; omega)) _).trans (hb7.mono (by first | omega | (simp; omega)))
    have y7 := BW.size
    clear hb7 z6 y6 cx0 cx1 lx cy0 cy1 ly cz0 cz1 lz cs0 cs1 ls ct0 ct1 lt
    have cx0 := Blk.cell Bx 0
    have cx1 := Blk.cell Bx 1
    simp at cx0 cx1
    have lx := Blk.lt Bx
    have cy0 := Blk.cell By 0
    have cy1 := Blk.cell By 1
    simp at cy0 cy1
    have ly := Blk.lt By
    have cz0 := Blk.cell Bz 0
    have cz1 := Blk.cell Bz 1
    simp at cz0 cz1
    have lz := Blk.lt Bz
    have cs0 := Blk.cell Bs 0
    have cs1 := Blk.cell Bs 1
    simp at cs0 cs1
    have ls := Blk.lt Bs
    have ct0 := Blk.cell Bt 0
    have ct1 := Blk.cell Bt 1
    simp at ct0 ct1
    have lt := Blk.lt Bt
    have cu0 := Blk.cell Bu 0
    have cu1 := Blk.cell Bu 1
    simp at cu0 cu1
    have lu := Blk.lt Bu
    go_wp2_with fail
    refine (k5.out _).mono ?_; rintro e w8 ⟨rfl, hb8⟩
    have z8 := hb8.size
    simp at z8
    replace Bx := Blk.below (Blk.alloc Bx _) hb8 (by have := Blk.lt Bx; first | (simp; done) | (simp; omega))
    replace By := Blk.below (Blk.alloc By _) hb8 (by have := Blk.lt By; first | (simp; done) | (simp; omega))
    replace Bz := Blk.below (Blk.alloc Bz _) hb8 (by have := Blk.lt Bz; first | (simp; done) | (simp; omega))
    replace Bs := Blk.below (Blk.alloc Bs _) hb8 (by have := Blk.lt Bs; first | (simp; done) | (simp; omega))
    replace Bt := Blk.below (Blk.alloc Bt _) hb8 (by have := Blk.lt Bt; first | (simp; done) | (simp; omega))
    replace Bu := Blk.below (Blk.alloc Bu _) hb8 (by have := Blk.lt Bu; first | (simp; done) | (simp; omega))
    have Bp : Blk w8 (w7.heap.size) 23 #[.int .i64 pn, .int .i64 pd] := Blk.below (Blk.new' w7 _ _ (by simp)) hb8 (by first | (simp; done) | (simp; omega))
    replace BW : Below w.heap.size w w8 := (BW.alloc (by first | omega | (simp; omega)) _).trans (hb8.mono (by first | omega | (simp; omega)))
    have y8 := BW.size
    clear hb8 z7 y7 cx0 cx1 lx cy0 cy1 ly cz0 cz1 lz cs0 cs1 ls ct0 ct1 lt cu0 cu1 lu
    have cx0 := Blk.cell Bx 0
    have cx1 := Blk.cell Bx 1
    simp at cx0 cx1
    have lx := Blk.lt Bx
    have cy0 := Blk.cell By 0
    have cy1 := Blk.cell By 1
    simp at cy0 cy1
    have ly := Blk.lt By
    have cz0 := Blk.cell Bz 0
    have cz1 := Blk.cell Bz 1
    simp at cz0 cz1
    have lz := Blk.lt Bz
    have cs0 := Blk.cell Bs 0
    have cs1 := Blk.cell Bs 1
    simp at cs0 cs1
    have ls := Blk.lt Bs
    have ct0 := Blk.cell Bt 0
    have ct1 := Blk.cell Bt 1
    simp at ct0 ct1
    have lt := Blk.lt Bt
    have cu0 := Blk.cell Bu 0
    have cu1 := Blk.cell Bu 1
    simp at cu0 cu1
    have lu := Blk.lt Bu
    have cp0 := Blk.cell Bp 0
    have cp1 := Blk.cell Bp 1
    simp at cp0 cp1
    have lp := Blk.lt Bp
    go_wp2_with fail
    refine (k6.out _).mono ?_; rintro e w9 ⟨rfl, hb9⟩
    have z9 := hb9.size
    simp at z9
    replace Bx := Blk.below (Blk.alloc Bx _) hb9 (by have := Blk.lt Bx; first | (simp; done) | (simp; omega))
    replace By := Blk.below (Blk.alloc By _) hb9 (by have := Blk.lt By; first | (simp; done) | (simp; omega))
    replace Bz := Blk.below (Blk.alloc Bz _) hb9 (by have := Blk.lt Bz; first | (simp; done) | (simp; omega))
    replace Bs := Blk.below (Blk.alloc Bs _) hb9 (by have := Blk.lt Bs; first | (simp; done) | (simp; omega))
    replace Bt := Blk.below (Blk.alloc Bt _) hb9 (by have := Blk.lt Bt; first | (simp; done) | (simp; omega))
    replace Bu := Blk.below (Blk.alloc Bu _) hb9 (by have := Blk.lt Bu; first | (simp; done) | (simp; omega))
    replace Bp := Blk.below (Blk.alloc Bp _) hb9 (by have := Blk.lt Bp; first | (simp; done) | (simp; omega))
    have Bq : Blk w9 (w8.heap.size) 23 #[.int .i64 qn, .int .i64 qd] := Blk.below (Blk.new' w8 _ _ (by simp)) hb9 (by first | (simp; done) | (simp; omega))
    replace BW : Below w.heap.size w w9 := (BW.alloc (by first | omega | (simp; omega)) _).trans (hb9.mono (by first | omega | (simp; omega)))
    have y9 := BW.size
    clear hb9 z8 y8 cx0 cx1 lx cy0 cy1 ly cz0 cz1 lz cs0 cs1 ls ct0 ct1 lt cu0 cu1 lu cp0 cp1 lp
    have cx0 := Blk.cell Bx 0
    have cx1 := Blk.cell Bx 1
    simp at cx0 cx1
    have lx := Blk.lt Bx
    have cy0 := Blk.cell By 0
    have cy1 := Blk.cell By 1
    simp at cy0 cy1
    have ly := Blk.lt By
    have cz0 := Blk.cell Bz 0
    have cz1 := Blk.cell Bz 1
    simp at cz0 cz1
    have lz := Blk.lt Bz
    have cs0 := Blk.cell Bs 0
    have cs1 := Blk.cell Bs 1
    simp at cs0 cs1
    have ls := Blk.lt Bs
    have ct0 := Blk.cell Bt 0
    have ct1 := Blk.cell Bt 1
    simp at ct0 ct1
    have lt := Blk.lt Bt
    have cu0 := Blk.cell Bu 0
    have cu1 := Blk.cell Bu 1
    simp at cu0 cu1
    have lu := Blk.lt Bu
    have cp0 := Blk.cell Bp 0
    have cp1 := Blk.cell Bp 1
    simp at cp0 cp1
    have lp := Blk.lt Bp
    have cq0 := Blk.cell Bq 0
    have cq1 := Blk.cell Bq 1
    simp at cq0 cq1
    have lq := Blk.lt Bq
    go_wp2_with fail
    refine (k7.out _).mono ?_; rintro e w10 ⟨rfl, hb10⟩
    have z10 := hb10.size
    simp at z10
    replace Bx := Blk.below (Blk.alloc Bx _) hb10 (by have := Blk.lt Bx; first | (simp; done) | (simp; omega))
    replace By := Blk.below (Blk.alloc By _) hb10 (by have := Blk.lt By; first | (simp; done) | (simp; omega))
    replace Bz := Blk.below (Blk.alloc Bz _) hb10 (by have := Blk.lt Bz; first | (simp; done) | (simp; omega))
    replace Bs := Blk.below (Blk.alloc Bs _) hb10 (by have := Blk.lt Bs; first | (simp; done) | (simp; omega))
    replace Bt := Blk.below (Blk.alloc Bt _) hb10 (by have := Blk.lt Bt; first | (simp; done) | (simp; omega))
    replace Bu := Blk.below (Blk.alloc Bu _) hb10 (by have := Blk.lt Bu; first | (simp; done) | (simp; omega))
    replace Bp := Blk.below (Blk.alloc Bp _) hb10 (by have := Blk.lt Bp; first | (simp; done) | (simp; omega))
    replace Bq := Blk.below (Blk.alloc Bq _) hb10 (by have := Blk.lt Bq; first | (simp; done) | (simp; omega))
    have Bv : Blk w10 (w9.heap.size) 23 #[.int .i64 un, .int .i64 ud] := Blk.below (Blk.new' w9 _ _ (by simp)) hb10 (by first | (simp; done) | (simp; omega))
    replace BW : Below w.heap.size w w10 := (BW.alloc (by first | omega | (simp; omega)) _).trans (hb10.mono (by first | omega | (simp; omega)))
    have y10 := BW.size
    clear hb10 z9 y9 cx0 cx1 lx cy0 cy1 ly cz0 cz1 lz cs0 cs1 ls ct0 ct1 lt cu0 cu1 lu cp0 cp1 lp cq0 cq1 lq
    have cx0 := Blk.cell Bx 0
    have cx1 := Blk.cell Bx 1
    simp at cx0 cx1
    have lx := Blk.lt Bx
    have cy0 := Blk.cell By 0
    have cy1 := Blk.cell By 1
    simp at cy0 cy1
    have ly := Blk.lt By
    have cz0 := Blk.cell Bz 0
    have cz1 := Blk.cell Bz 1
    simp at cz0 cz1
    have lz := Blk.lt Bz
    have cs0 := Blk.cell Bs 0
    have cs1 := Blk.cell Bs 1
    simp at cs0 cs1
    have ls := Blk.lt Bs
    have ct0 := Blk.cell Bt 0
    have ct1 := Blk.cell Bt 1
    simp at ct0 ct1
    have lt := Blk.lt Bt
    have cu0 := Blk.cell Bu 0
    have cu1 := Blk.cell Bu 1
    simp at cu0 cu1
    have lu := Blk.lt Bu
    have cp0 := Blk.cell Bp 0
    have cp1 := Blk.cell Bp 1
    simp at cp0 cp1
    have lp := Blk.lt Bp
    have cq0 := Blk.cell Bq 0
    have cq1 := Blk.cell Bq 1
    simp at cq0 cq1
    have lq := Blk.lt Bq
    have cv0 := Blk.cell Bv 0
    have cv1 := Blk.cell Bv 1
    simp at cv0 cv1
    have lv := Blk.lt Bv
    go_wp2_with fail
    refine (k8.out _).mono ?_; rintro e w11 ⟨rfl, hb11⟩
    have z11 := hb11.size
    simp at z11
    replace Bx := Blk.below (Blk.alloc Bx _) hb11 (by have := Blk.lt Bx; first | (simp; done) | (simp; omega))
    replace By := Blk.below (Blk.alloc By _) hb11 (by have := Blk.lt By; first | (simp; done) | (simp; omega))
    replace Bz := Blk.below (Blk.alloc Bz _) hb11 (by have := Blk.lt Bz; first | (simp; done) | (simp; omega))
    replace Bs := Blk.below (Blk.alloc Bs _) hb11 (by have := Blk.lt Bs; first | (simp; done) | (simp; omega))
    replace Bt := Blk.below (Blk.alloc Bt _) hb11 (by have := Blk.lt Bt; first | (simp; done) | (simp; omega))
    replace Bu := Blk.below (Blk.alloc Bu _) hb11 (by have := Blk.lt Bu; first | (simp; done) | (simp; omega))
    replace Bp := Blk.below (Blk.alloc Bp _) hb11 (by have := Blk.lt Bp; first | (simp; done) | (simp; omega))
    replace Bq := Blk.below (Blk.alloc Bq _) hb11 (by have := Blk.lt Bq; first | (simp; done) | (simp; omega))
    replace Bv := Blk.below (Blk.alloc Bv _) hb11 (by have := Blk.lt Bv; first | (simp; done) | (simp; omega))
    have Bw : Blk w11 (w10.heap.size) 23 #[.int .i64 xn, .int .i64 xd] := Blk.below (Blk.new' w10 _ _ (by simp)) hb11 (by first | (simp; done) | (simp; omega))
    replace BW : Below w.heap.size w w11 := (BW.alloc (by first | omega | (simp; omega)) _).trans (hb11.mono (by first | omega | (simp; omega)))
    have y11 := BW.size
    clear hb11 z10 y10 cx0 cx1 lx cy0 cy1 ly cz0 cz1 lz cs0 cs1 ls ct0 ct1 lt cu0 cu1 lu cp0 cp1 lp cq0 cq1 lq cv0 cv1 lv
    have cx0 := Blk.cell Bx 0
    have cx1 := Blk.cell Bx 1
    simp at cx0 cx1
    have lx := Blk.lt Bx
    have cy0 := Blk.cell By 0
    have cy1 := Blk.cell By 1
    simp at cy0 cy1
    have ly := Blk.lt By
    have cz0 := Blk.cell Bz 0
    have cz1 := Blk.cell Bz 1
    simp at cz0 cz1
    have lz := Blk.lt Bz
    have cs0 := Blk.cell Bs 0
    have cs1 := Blk.cell Bs 1
    simp at cs0 cs1
    have ls := Blk.lt Bs
    have ct0 := Blk.cell Bt 0
    have ct1 := Blk.cell Bt 1
    simp at ct0 ct1
    have lt := Blk.lt Bt
    have cu0 := Blk.cell Bu 0
    have cu1 := Blk.cell Bu 1
    simp at cu0 cu1
    have lu := Blk.lt Bu
    have cp0 := Blk.cell Bp 0
    have cp1 := Blk.cell Bp 1
    simp at cp0 cp1
    have lp := Blk.lt Bp
    have cq0 := Blk.cell Bq 0
    have cq1 := Blk.cell Bq 1
    simp at cq0 cq1
    have lq := Blk.lt Bq
    have cv0 := Blk.cell Bv 0
    have cv1 := Blk.cell Bv 1
    simp at cv0 cv1
    have lv := Blk.lt Bv
    have cw0 := Blk.cell Bw 0
    have cw1 := Blk.cell Bw 1
    simp at cw0 cw1
    have lw := Blk.lt Bw
    go_wp2_with fail
    refine (awake_any _).mono ?_; rintro e w12 ⟨rfl, hb12⟩
    go_wp2_with fail
    go_returns
    exact ⟨rfl, (BW.alloc (by omega) _).trans (hb12.mono (by simp; omega))⟩
theorem field_any (a b c d e f : Int) (w : World) :
    Calls Try.prog 6 #[.int .i64 a, .int .i64 b, .int .i64 c, .int .i64 d, .int .i64 e, .int .i64 f] w fun e w' => e = .returned (.bool true) ∧ Below w.heap.size w w' :=
  field_walk a b c d e f w _ _ _ _ _ _ rfl rfl rfl rfl rfl rfl
end Go.Proofs.Ytfofmblbcpliaaa
