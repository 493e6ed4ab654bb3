/- RatioOrder: the walk. -/
import Derived.Test.YtfofmblbcpliaaaRatW
set_option linter.unusedVariables false
namespace Go.Proofs.Ytfofmblbcpliaaa
open Go.RowKit CoRat

theorem below_call {w w1 w2 : World} {n : Nat} (h : Below w.heap.size w w1) (hb : Below n w1 w2) (hn : w1.heap.size ≤ n := by exact Nat.le_refl _) : Below w.heap.size w w2 := h.trans (hb.mono (Nat.le_trans h.size hn))
set_option maxRecDepth 100000 in
set_option maxHeartbeats 4000000 in
theorem order_walk (a b c d e f : Int) (w : World) (xn xd yn yd zn zd : Int)
    (ex : xn = mkN (a % 41 - 20) (1 + b % 12)) (ex' : xd = mkD (a % 41 - 20) (1 + b % 12)) (ey : yn = mkN (c % 41 - 20) (1 + d % 12)) (ey' : yd = mkD (c % 41 - 20) (1 + d % 12)) (ez : zn = mkN (e % 41 - 20) (1 + f % 12)) (ez' : zd = mkD (e % 41 - 20) (1 + f % 12)) :
    Calls Try.prog 5 #[.int .i64 a, .int .i64 b, .int .i64 c, .int .i64 d, .int .i64 e, .int .i64 f] w fun e w' => e = .returned (.bool true) ∧ Below w.heap.size w w' := by
  have sx := fun w => small_any a b w
  have sy := fun w => small_any c d w
  have sz := fun w => small_any e f w
  rw [← ex, ← ex'] at sx
  rw [← ey, ← ey'] at sy
  rw [← ez, ← ez'] at sz
  have hvx : Val xn xd (a % 41 - 20) (1 + b % 12) 20 12 := by rw [ex, ex']; exact small_val a b
  obtain ⟨m1, m2, m3, m4, m5, m6, m7, m8, m9, m10⟩ := order_math xn xd yn yd zn zd _ _ _ _ _ _ hvx (by rw [ey, ey']; exact small_val c d) (by rw [ez, ez']; exact small_val e f)
  have x1 := hvx.2.2.2.1
  have x2 := hvx.2.2.2.2
  clear ex ex' ey ey' ez ez' hvx
  have k1 := fun w => add_any xn xd zn zd w
  have k2 := fun w => add_any yn yd zn zd w
  rw [m1] at k1
  rw [m2] at k2
  generalize addN xn xd zn zd = sn at *
  generalize addD xn xd zn zd = sd at *
  generalize addN yn yd zn zd = tn at *
  generalize addD yn yd zn zd = td at *
  have cxy := fun w => cmp_any xn xd yn yd w
  have cyx := fun w => cmp_any yn yd xn xd w
  have cst := fun w => cmp_any sn sd tn td w
  have cyz := fun w => cmp_any yn yd zn zd w
  have cxz := fun w => cmp_any xn xd zn zd w
  have flo := fun w => floor_any xn xd w
  rw [m4] at cst
  have m3' : cmpF yn yd xn xd = -cmpF xn xd yn yd := by omega
  rw [m3'] at cyx
  have hC : -1 ≤ cmpF xn xd yn yd ∧ cmpF xn xd yn yd ≤ 1 := by
    unfold cmpF
    split
    · rcases Int.lt_trichotomy (xn * yd - yn * xd) 0 with h | h | h
      · rw [Int.sign_eq_neg_one_of_neg h]; omega
      · rw [h]; decide
      · rw [Int.sign_eq_one_of_pos h]; omega
    · decide
  clear m3 m3'
  generalize cmpF xn xd yn yd = C at *
  have hwC : IntKind.i64.wrap C = C := IntWalk.i64_in _ ⟨by omega, by omega⟩
  have hwC2 : IntKind.i64.wrap (- -C) = C := by rw [Int.neg_neg]; exact hwC
  generalize cmpF yn yd zn zd = D at *
  generalize cmpF xn xd zn zd = E at *
  generalize flF xn xd = F at *
  replace k1 := Lib.hid k1
  replace k2 := Lib.hid k2
  replace sx := Lib.hid sx
  replace sy := Lib.hid sy
  replace sz := Lib.hid sz
  replace cxy := Lib.hid cxy
  replace cyx := Lib.hid cyx
  replace cst := Lib.hid cst
  replace cyz := Lib.hid cyz
  replace cxz := Lib.hid cxz
  replace flo := Lib.hid flo
  clear m1 m2 m4
  replace m5 := Lib.hid m5
  replace m6 := Lib.hid m6
  replace m7 := Lib.hid m7
  replace m8 := Lib.hid m8
  go_enter Try.func5, Try.ntmps5
  go_wp2_with fail
  refine (sx.out _).mono ?_; rintro e w1 ⟨rfl, hb1⟩
  have z1 := hb1.size
  have BW : Below w.heap.size w w1 := hb1
  have y1 := BW.size
  clear hb1
  go_wp2_with fail
  refine (sy.out _).mono ?_; rintro e w2 ⟨rfl, hb2⟩
  have z2 := hb2.size
  replace BW : Below w.heap.size w w2 := BW.trans (hb2.mono (by first | omega | (simp; omega)))
  have y2 := BW.size
  clear hb2 z1 y1
  go_wp2_with fail
  refine (sz.out _).mono ?_; rintro e w3 ⟨rfl, hb3⟩
  have z3 := hb3.size
  replace BW : Below w.heap.size w w3 := BW.trans (hb3.mono (by first | omega | (simp; omega)))
  have y3 := BW.size
  clear hb3 z2 y2
  go_wp2_with fail
  refine (k1.out _).mono ?_; rintro e w4 ⟨rfl, hb4⟩
  have z4 := hb4.size
  simp at z4
  have Bx : Blk w4 (w3.heap.size) 23 #[.int .i64 xn, .int .i64 xd] := Blk.below (Blk.alloc (Blk.alloc (Blk.new' w3 _ _ (by simp)) _) _) hb4 (by first | (simp; done) | (simp; omega))
  have By : Blk w4 (w3.heap.size + 1) 23 #[.int .i64 yn, .int .i64 yd] := Blk.below (Blk.alloc (Blk.new' (w3.alloc _) _ _ (by simp)) _) hb4 (by first | (simp; done) | (simp; omega))
  have Bz : Blk w4 (w3.heap.size + 1 + 1) 23 #[.int .i64 zn, .int .i64 zd] := Blk.below (Blk.new' ((w3.alloc _).alloc _) _ _ (by simp)) hb4 (by first | (simp; done) | (simp; omega))
  replace BW : Below w.heap.size w w4 := (((BW.alloc (by first | omega | (simp; omega)) _).alloc (by first | omega | (simp; omega)) _).alloc (by first | omega | (simp; omega)) _).trans (hb4.mono (by first | omega | (simp; omega)))
  have y4 := BW.size
  clear hb4 z3 y3
  have cx0 := Blk.cell Bx 0
  have cx1 := Blk.cell Bx 1
  simp at cx0 cx1
  have lx := Blk.lt Bx
  have cy0 := Blk.cell By 0
  have cy1 := Blk.cell By 1
  simp at cy0 cy1
  have ly := Blk.lt By
  have cz0 := Blk.cell Bz 0
  have cz1 := Blk.cell Bz 1
  simp at cz0 cz1
  have lz := Blk.lt Bz
  go_wp2_with fail
  refine (k2.out _).mono ?_; rintro e w5 ⟨rfl, hb5⟩
  have z5 := hb5.size
  simp at z5
  replace Bx := Blk.below (Blk.alloc Bx _) hb5 (by have := Blk.lt Bx; first | (simp; done) | (simp; omega))
  replace By := Blk.below (Blk.alloc By _) hb5 (by have := Blk.lt By; first | (simp; done) | (simp; omega))
  replace Bz := Blk.below (Blk.alloc Bz _) hb5 (by have := Blk.lt Bz; first | (simp; done) | (simp; omega))
  have Bs : Blk w5 (w4.heap.size) 23 #[.int .i64 sn, .int .i64 sd] := Blk.below (Blk.new' w4 _ _ (by simp)) hb5 (by first | (simp; done) | (simp; omega))
  replace BW : Below w.heap.size w w5 := (BW.alloc (by first | omega | (simp; omega)) _).trans (hb5.mono (by first | omega | (simp; omega)))
  have y5 := BW.size
  clear hb5 z4 y4 cx0 cx1 lx cy0 cy1 ly cz0 cz1 lz
  have cx0 := Blk.cell Bx 0
  have cx1 := Blk.cell Bx 1
  simp at cx0 cx1
  have lx := Blk.lt Bx
  have cy0 := Blk.cell By 0
  have cy1 := Blk.cell By 1
  simp at cy0 cy1
  have ly := Blk.lt By
  have cz0 := Blk.cell Bz 0
  have cz1 := Blk.cell Bz 1
  simp at cz0 cz1
  have lz := Blk.lt Bz
  have cs0 := Blk.cell Bs 0
  have cs1 := Blk.cell Bs 1
  simp at cs0 cs1
  have ls := Blk.lt Bs
  go_wp2_with fail
  obtain ⟨W, hW⟩ : ∃ W, W = w5.alloc (.cells #[.int .i64 tn, .int .i64 td] 23) := ⟨_, rfl⟩
  have ZZ : w5.heap.size + 1 ≤ W.heap.size := by rw [hW]; simp
  replace BW : Below w.heap.size w W := by rw [hW]; exact BW.alloc (by omega) _
  have Bt : Blk W w5.heap.size 23 #[.int .i64 tn, .int .i64 td] := by rw [hW]; exact Blk.new _ _ _
  replace Bx : Blk W (w3.heap.size) 23 #[.int .i64 xn, .int .i64 xd] := by rw [hW]; exact Blk.alloc Bx _
  replace By : Blk W (w3.heap.size + 1) 23 #[.int .i64 yn, .int .i64 yd] := by rw [hW]; exact Blk.alloc By _
  replace Bz : Blk W (w3.heap.size + 1 + 1) 23 #[.int .i64 zn, .int .i64 zd] := by rw [hW]; exact Blk.alloc Bz _
  replace Bs : Blk W (w4.heap.size) 23 #[.int .i64 sn, .int .i64 sd] := by rw [hW]; exact Blk.alloc Bs _
  clear cx0 cx1 cy0 cy1 cz0 cz1 cs0 cs1
  rw [← hW]
  clear hW
  have cx0 := Blk.cell Bx 0
  have cx1 := Blk.cell Bx 1
  simp at cx0 cx1
  have cy0 := Blk.cell By 0
  have cy1 := Blk.cell By 1
  simp at cy0 cy1
  have cz0 := Blk.cell Bz 0
  have cz1 := Blk.cell Bz 1
  simp at cz0 cz1
  have cs0 := Blk.cell Bs 0
  have cs1 := Blk.cell Bs 1
  simp at cs0 cs1
  have ct0 := Blk.cell Bt 0
  have ct1 := Blk.cell Bt 1
  simp at ct0 ct1
  have hxy : (xn == yn) = true ∧ (xd == yd) = true ∧ (C == 0) = true ∨ (xn == yn) = false ∧ (C == 0) = false ∨ (xn == yn) = true ∧ (xd == yd) = false ∧ (C == 0) = false := by
    have h := m5.out
    by_cases h1 : xn = yn <;> by_cases h2 : xd = yd <;> simp [h1, h2] at h ⊢ <;> omega
  have BV : Below (w5.heap.size + 1) W W := Below.refl _ _
  rcases hxy with ⟨b1, b2, b3⟩ | ⟨b1, b3⟩ | ⟨b1, b2, b3⟩
  all_goals
    go_region_held3 (fun w' => w'.cell? ⟨w3.heap.size, 0, none⟩ = some (.int .i64 xn) ∧ w'.cell? ⟨w3.heap.size, 1, none⟩ = some (.int .i64 xd) ∧ w'.cell? ⟨w3.heap.size + 1, 0, none⟩ = some (.int .i64 yn) ∧ w'.cell? ⟨w3.heap.size + 1, 1, none⟩ = some (.int .i64 yd) ∧ w'.cell? ⟨w3.heap.size + 1 + 1, 0, none⟩ = some (.int .i64 zn) ∧ w'.cell? ⟨w3.heap.size + 1 + 1, 1, none⟩ = some (.int .i64 zd) ∧ w'.cell? ⟨w4.heap.size, 0, none⟩ = some (.int .i64 sn) ∧ w'.cell? ⟨w4.heap.size, 1, none⟩ = some (.int .i64 sd) ∧ w'.cell? ⟨w5.heap.size, 0, none⟩ = some (.int .i64 tn) ∧ w'.cell? ⟨w5.heap.size, 1, none⟩ = some (.int .i64 td))
      ((first | (go_split_ands; refine ⟨?_, ?_, ?_, ?_, ?_, ?_, ?_, ?_, ?_, ?_⟩ <;> (rw [hcc _ _ (by omega)]; assumption)) | ((repeat' apply And.intro) <;> (go_keep; done))))
      (first | (go_at_call 19; (with_reducible refine (cxy.out _).mono ?_); rintro e w9 ⟨rfl, hb9⟩; (try clear hcc hff); obtain ⟨hcc, hff⟩ := bat hb9 (w5.heap.size + 1) ZZ; replace BV : Below (w5.heap.size + 1) W w9 := (by first | exact BV.trans (hb9.mono ZZ) | exact BV.drew.trans (hb9.mono ZZ)); replace ZZ : w5.heap.size + 1 ≤ w9.heap.size := Nat.le_trans ZZ hb9.size; replace BW : Below w.heap.size w w9 := (by first | exact below_call BW hb9 | exact below_call BW.drew hb9); clear hb9) | (go_at_call 19; (with_reducible refine (cyx.out _).mono ?_); rintro e w9 ⟨rfl, hb9⟩; (try clear hcc hff); obtain ⟨hcc, hff⟩ := bat hb9 (w5.heap.size + 1) ZZ; replace BV : Below (w5.heap.size + 1) W w9 := (by first | exact BV.trans (hb9.mono ZZ) | exact BV.drew.trans (hb9.mono ZZ)); replace ZZ : w5.heap.size + 1 ≤ w9.heap.size := Nat.le_trans ZZ hb9.size; replace BW : Below w.heap.size w w9 := (by first | exact below_call BW hb9 | exact below_call BW.drew hb9); clear hb9) | (go_at_call 19; (with_reducible refine (cst.out _).mono ?_); rintro e w9 ⟨rfl, hb9⟩; (try clear hcc hff); obtain ⟨hcc, hff⟩ := bat hb9 (w5.heap.size + 1) ZZ; replace BV : Below (w5.heap.size + 1) W w9 := (by first | exact BV.trans (hb9.mono ZZ) | exact BV.drew.trans (hb9.mono ZZ)); replace ZZ : w5.heap.size + 1 ≤ w9.heap.size := Nat.le_trans ZZ hb9.size; replace BW : Below w.heap.size w w9 := (by first | exact below_call BW hb9 | exact below_call BW.drew hb9); clear hb9))
    clear hcc hff cx0 cx1 cy0 cy1 cz0 cz1 cs0 cs1 ct0 ct1
    replace Bx := Blk.below Bx BV (by omega)
    replace By := Blk.below By BV (by omega)
    replace Bz := Blk.below Bz BV (by omega)
    have lx := Blk.lt Bx
    have ly := Blk.lt By
    have lz := Blk.lt Bz
    have cx0 := Blk.cell Bx 0
    have cx1 := Blk.cell Bx 1
    simp at cx0 cx1
    clear Bs Bt BV b1
    try clear b2
    go_wp2_with fail
    refine (flo.out _).mono ?_; rintro e w10 ⟨rfl, hb10⟩
    replace ZZ := Nat.le_trans ZZ hb10.size
    replace BW := below_call BW hb10
    replace Bx := Blk.below Bx hb10 lx
    replace By := Blk.below By hb10 ly
    replace Bz := Blk.below Bz hb10 lz
    clear hb10 cx0 cx1
    have cx0 := Blk.cell Bx 0
    have cx1 := Blk.cell Bx 1
    simp at cx0 cx1
    have cy0 := Blk.cell By 0
    have cy1 := Blk.cell By 1
    simp at cy0 cy1
    have cz0 := Blk.cell Bz 0
    have cz1 := Blk.cell Bz 1
    simp at cz0 cz1
    replace lx := Blk.lt Bx
    replace ly := Blk.lt By
    replace lz := Blk.lt Bz
    have p2 : IntKind.i64.wrap (F + 1) = F + 1 := IntWalk.i64_in _ ⟨by omega, by omega⟩
    have q6 := m6.out
    have q7 := m7.out
    have e7 : (F + 1) * xd = F * xd + xd := by rw [Int.add_mul, Int.one_mul]
    have p1 : IntKind.i64.wrap (F * xd) = F * xd := IntWalk.i64_in _ ⟨by omega, by omega⟩
    have p3 : IntKind.i64.wrap ((F + 1) * xd) = (F + 1) * xd := IntWalk.i64_in _ ⟨by omega, by omega⟩
    clear e7
    have t1 : decide (F * xd ≤ xn) = true := decide_eq_true q6
    have t2 : decide (xn < (F + 1) * xd) = true := decide_eq_true q7
    have h8 : decide (0 < C) = true ∨ (decide (0 < C) = false ∧ decide (0 < D) = true) ∨ (decide (0 < C) = false ∧ decide (0 < D) = false ∧ decide (E ≤ 0) = true) := by
      have := m8.out
      by_cases g1 : 0 < C <;> by_cases g2 : 0 < D <;> simp [g1, g2] at this ⊢ <;> exact this
    clear m5 m6 m7 m8 q6 q7 k1 k2 sx sy sz cyx cst flo hwC2 b3
    have aw := Lib.hid awake_any
    rcases h8 with h8 | ⟨h8, h9⟩ | ⟨h8, h9, h10⟩
    all_goals
      go_wp2_with (first | (go_at_call 19; (with_reducible refine (cxy.out _).mono ?_); rintro e w9 ⟨rfl, hb9⟩; (try clear cx0 cx1 cy0 cy1 cz0 cz1); replace Bx := Blk.below Bx hb9 lx; replace By := Blk.below By hb9 ly; replace Bz := Blk.below Bz hb9 lz; replace lx := Blk.lt Bx; replace ly := Blk.lt By; replace lz := Blk.lt Bz; have cx0 := Blk.cell Bx 0; have cx1 := Blk.cell Bx 1; simp at cx0 cx1; have cy0 := Blk.cell By 0; have cy1 := Blk.cell By 1; simp at cy0 cy1; have cz0 := Blk.cell Bz 0; have cz1 := Blk.cell Bz 1; simp at cz0 cz1; replace BW : Below w.heap.size w w9 := below_call BW hb9; clear hb9) | (go_at_call 19; (with_reducible refine (cyz.out _).mono ?_); rintro e w9 ⟨rfl, hb9⟩; (try clear cx0 cx1 cy0 cy1 cz0 cz1); replace Bx := Blk.below Bx hb9 lx; replace By := Blk.below By hb9 ly; replace Bz := Blk.below Bz hb9 lz; replace lx := Blk.lt Bx; replace ly := Blk.lt By; replace lz := Blk.lt Bz; have cx0 := Blk.cell Bx 0; have cx1 := Blk.cell Bx 1; simp at cx0 cx1; have cy0 := Blk.cell By 0; have cy1 := Blk.cell By 1; simp at cy0 cy1; have cz0 := Blk.cell Bz 0; have cz1 := Blk.cell Bz 1; simp at cz0 cz1; replace BW : Below w.heap.size w w9 := below_call BW hb9; clear hb9) | (go_at_call 19; (with_reducible refine (cxz.out _).mono ?_); rintro e w9 ⟨rfl, hb9⟩; (try clear cx0 cx1 cy0 cy1 cz0 cz1); replace Bx := Blk.below Bx hb9 lx; replace By := Blk.below By hb9 ly; replace Bz := Blk.below Bz hb9 lz; replace lx := Blk.lt Bx; replace ly := Blk.lt By; replace lz := Blk.lt Bz; have cx0 := Blk.cell Bx 0; have cx1 := Blk.cell Bx 1; simp at cx0 cx1; have cy0 := Blk.cell By 0; have cy1 := Blk.cell By 1; simp at cy0 cy1; have cz0 := Blk.cell Bz 0; have cz1 := Blk.cell Bz 1; simp at cz0 cz1; replace BW : Below w.heap.size w w9 := below_call BW hb9; clear hb9) | (go_at_call 12; (with_reducible refine (aw.out _).mono ?_); rintro e w9 ⟨rfl, hb9⟩; replace BW : Below w.heap.size w w9 := below_call BW hb9; clear hb9))
      go_ret
      exact ⟨rfl, BW⟩
theorem order_any (a b c d e f : Int) (w : World) :
    Calls Try.prog 5 #[.int .i64 a, .int .i64 b, .int .i64 c, .int .i64 d, .int .i64 e, .int .i64 f] w fun e w' => e = .returned (.bool true) ∧ Below w.heap.size w w' :=
  order_walk a b c d e f w _ _ _ _ _ _ rfl rfl rfl rfl rfl rfl
end Go.Proofs.Ytfofmblbcpliaaa
