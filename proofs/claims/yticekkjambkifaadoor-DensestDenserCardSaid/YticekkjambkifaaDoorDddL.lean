/- The law DensestDenser. -/
import Derived.Test.YticekkjambkifaaDoorDerR
import Derived.Test.YticekkjambkifaaDoorZam
import Derived.Test.YticekkjambkifaaDoorRefI
set_option linter.unusedVariables false
set_option linter.unusedSimpArgs false
namespace Go.Proofs.YticekkjambkifaaDoor.Fl
open Go.RowKit Go.Proofs.YticekkjambkifaaDoor CoBit CoRat Rt

theorem dsS_len (n : Nat) (es : List (Int × Int)) (p q : Int) : (dsS n es p q).length ≤ 64 := by
  unfold dsS
  split
  · exact bset_length _
  · simp
/-- Three prices. -/
def FL3 (w : World) (gl : Nat) : Prop := ∀ j, j < 3 → ∃ p q : Int, w.cell? ⟨gl, j * 2, none⟩ = some (.int .i64 p) ∧ w.cell? ⟨gl, j * 2 + 1, none⟩ = some (.int .i64 q)
theorem FL3.of_six {w : World} {g : Nat} {a b c d e f : Int} (h : Blk w g 36 #[.int .i64 a, .int .i64 b, .int .i64 c, .int .i64 d, .int .i64 e, .int .i64 f]) : FL3 w g := fun j hj => by
  have hjj : j = 0 ∨ j = 1 ∨ j = 2 := by omega
  rcases hjj with rfl | rfl | rfl
  · exact ⟨a, b, h.cell 0, h.cell 1⟩
  · exact ⟨c, d, h.cell 2, h.cell 3⟩
  · exact ⟨e, f, h.cell 4, h.cell 5⟩
theorem FL3.below {w w' : World} {gl : Nat} (h : FL3 w gl) (hl : gl < w.heap.size) (hb : Below w.heap.size w w') : FL3 w' gl := fun j hj => by
  obtain ⟨p, q, h1, h2⟩ := h j hj
  exact ⟨p, q, (hb.cell (p := ⟨gl, j * 2, none⟩) hl).trans h1, (hb.cell (p := ⟨gl, j * 2 + 1, none⟩) hl).trans h2⟩
set_option maxRecDepth 100000 in
set_option maxHeartbeats 16000000 in
theorem lawDenser_any (rn rd : Int) (A0 : Option Addr) (m0 c0 : Nat) (l : List Int) (NU DE : Int) (w : World) (hT : Tab w) (h0 : RI w A0 m0 l) (hmc : m0 ≤ c0) (hm0 : m0 ≤ 1152921504606846976) :
    Calls Tryd.prog 10 #[.agg #[.int .i64 rn, .int .i64 rd], .slice A0 m0 c0, .int .i64 NU, .int .i64 DE] w fun e w' => e = .returned (.bool true) ∧ Below w.heap.size w w' := by
  obtain ⟨X, hX⟩ := Int.eq_ofNat_of_zero_le (show 0 ≤ NU % 12 by omega)
  obtain ⟨Y, hY⟩ := Int.eq_ofNat_of_zero_le (show 0 ≤ 1 + DE % 5 by omega)
  have hX5 : X ≤ 11 := by omega
  have hY5 : 1 ≤ Y ∧ Y ≤ 5 := by omega
  have km1 := fun w => mkmod_any NU 12 w (by omega) (by omega)
  have km2 := fun w => mkmod_any DE 5 w (by omega) (by omega)
  rw [hX] at km1
  have j1 : IntKind.i64.wrap (1 + DE % 5) = (Y : Int) := by rw [hY]; exact IntWalk.i64_in _ ⟨by omega, by omega⟩
  have j2 : 1 + DE % 5 = (Y : Int) := hY
  have hFx := FrV.mk_ X Y (by omega) (by omega) (by omega)
  obtain ⟨a, d, ha, hd, hd0, ha4, hd5, _⟩ := mk_val X Y (by omega) (by omega) (by omega)
  rw [ha, hd] at hFx
  have hokx := hFx.1
  have kof1 := fun w => of_f (X : Int) (Y : Int) w (by omega) (by omega) (by omega) (by omega)
  rw [ha, hd] at kof1
  replace km1 := Lib.hid km1
  replace km2 := Lib.hid km2
  replace kof1 := Lib.hid kof1
  replace hokx := Lib.hid hokx
  have had : Hid (a ≤ 11 ∧ d ≤ 5 ∧ 0 < d) := Lib.hid ⟨by omega, by omega, hd0⟩
  replace j2 := Lib.hid j2
  clear hX hY hFx ha hd ha4 hd5 hd0 hX5 hY5
  go_enter Tryd.func10, Tryd.ntmps10
  have bW : Below w.heap.size w (w.alloc (.cells #[.int .i64 rn, .int .i64 rd] 36)) := (Below.refl _ w).alloc (Nat.le_refl _) _
  have X0 := Blk.new w 36 #[.int .i64 rn, .int .i64 rd]
  go_upto_region 1 with fail
  have h00 := h0.alloc (.cells #[.int .i64 rn, .int .i64 rd] 36)
  have hxl := X0.lt
  have hw0s : w.heap.size + 1 = (w.alloc (.cells #[.int .i64 rn, .int .i64 rd] 36)).heap.size := by simp
  generalize w.alloc (.cells #[.int .i64 rn, .int .i64 rd] 36) = w0 at *
  go_wp2_with fail
  refine (new_any A0 m0 c0 l w0 h00 hmc hm0).mono ?_
  rintro e w1 ⟨rfl, hd1, hb1, hs1⟩
  go_wp2_with fail
  refine (mkgraph_any _ 8 _ hd1 (by omega)).mono ?_
  rintro e w2 ⟨n, es, A, m, c, rfl, hmcc, hr2, hf2, hsrt, hn9, hd2, hg2⟩
  have hz := Lib.hid (chk_of_srt hsrt (show (0 : Int) ≤ n by omega) (by omega))
  have hlen : m ≤ 81 := by
    have h1 := srt_len hsrt
    have h2 := hr2.len
    have h3 : n * n ≤ 9 * 9 := Nat.mul_le_mul (by omega) (by omega)
    omega
  have hel := Lib.hid (show es.length ≤ 4096 by have := hr2.len; omega)
  have hb2a : Below w0.heap.size w0 w2 := hb1.grown hg2 (by omega) (fun k hk => by injection hk with hk; omega)
  have hb2 : Below w.heap.size w w2 := bW.trans (hb2a.mono bW.size)
  have X2 := X0.below hb2a hxl
  have hs2 := hb2.size
  clear hs1 hb1 hf2 hg2 h0 h00 hd1 hd2 hsrt hb2a bW X0 hxl hw0s
  go_upto_region 2 with fail
  have G3 := Blk.new w2 25 #[.int .i64 n, .slice A m c]
  have E3 := hr2.alloc (.cells #[.int .i64 n, .slice A m c] 25)
  have B3 := hb2.alloc hs2 (.cells #[.int .i64 n, .slice A m c] 25)
  have X3 := X2.alloc (.cells #[.int .i64 n, .slice A m c] 25)
  clear hr2 hb2 X2
  generalize w2.alloc (.cells #[.int .i64 n, .slice A m c] 25) = w3 at *
  generalize w2.heap.size = gg at *
  obtain ⟨d0, d1⟩ := blkG G3
  have hT3 := hT.keep B3
  go_upto_region 3 with (first
    | (go_at_call 49; with_reducible refine (km1.out _).mono ?_; rintro e wq ⟨rfl, hq⟩; obtain rfl := hq.symm)
    | (go_at_call 49; with_reducible refine (km2.out _).mono ?_; rintro e wq ⟨rfl, hq⟩; obtain rfl := hq.symm)
    | (go_at_call 26; with_reducible refine (kof1.out _).mono ?_; rintro e w4 ⟨rfl, hb4⟩)
    | fail)
  have F5 := Blk.new w4 36 #[.int .i64 (a : Nat), .int .i64 (d : Nat)]
  have G5 := (G3.below hb4 G3.lt).alloc (.cells #[.int .i64 (a : Nat), .int .i64 (d : Nat)] 36)
  have X5 := (X3.below hb4 X3.lt).alloc (.cells #[.int .i64 (a : Nat), .int .i64 (d : Nat)] 36)
  have E5 := (E3.below hb4 (Nat.le_refl _)).alloc (.cells #[.int .i64 (a : Nat), .int .i64 (d : Nat)] 36)
  have B5 := (B3.trans (hb4.mono B3.size)).alloc (B3.trans (hb4.mono B3.size)).size (.cells #[.int .i64 (a : Nat), .int .i64 (d : Nat)] 36)
  clear G3 X3 E3 B3 hb4 km1 km2 kof1 d0 d1 j1 hokx had
  generalize w4.alloc (.cells #[.int .i64 (a : Nat), .int .i64 (d : Nat)] 36) = w5 at *
  generalize w4.heap.size = gf at *
  have f0 := Blk.cell F5 0
  have f1 := Blk.cell F5 1
  have x0 := Blk.cell X5 0
  have x1 := Blk.cell X5 1
  simp at f0 f1 x0 x1
  have L6 := Blk.new w5 36 #[.int .i64 (a : Nat), .int .i64 (d : Nat), .int .i64 rn, .int .i64 rd, .int .i64 NU, .int .i64 DE]
  have hL6 : FL3 (w5.alloc (.cells #[.int .i64 (a : Nat), .int .i64 (d : Nat), .int .i64 rn, .int .i64 rd, .int .i64 NU, .int .i64 DE] 36)) w5.heap.size := FL3.of_six L6
  have hgl := L6.lt
  have G6 := G5.alloc (.cells #[.int .i64 (a : Nat), .int .i64 (d : Nat), .int .i64 rn, .int .i64 rd, .int .i64 NU, .int .i64 DE] 36)
  have E6 := E5.alloc (.cells #[.int .i64 (a : Nat), .int .i64 (d : Nat), .int .i64 rn, .int .i64 rd, .int .i64 NU, .int .i64 DE] 36)
  have B6 := B5.alloc B5.size (.cells #[.int .i64 (a : Nat), .int .i64 (d : Nat), .int .i64 rn, .int .i64 rd, .int .i64 NU, .int .i64 DE] 36)
  clear L6
  go_wp2_with fail
  clear G5 X5 E5 F5 B5 f0 f1 x0 x1
  generalize w5.alloc (.cells #[.int .i64 (a : Nat), .int .i64 (d : Nat), .int .i64 rn, .int .i64 rd, .int .i64 NU, .int .i64 DE] 36) = W at *
  generalize w5.heap.size = gl at *
  obtain ⟨d0, d1⟩ := blkG G6
  replace hL6 := Lib.hid hL6
  have hT6 := Lib.hid (hT.keep B6)
  go_loopw [35] (fun i wr => ∃ k : Nat, k ≤ 3 ∧ i = .int .i64 (k : Nat) ∧ Below W.heap.size W wr) (fun i _ => 3 - (intOf i).toNat)
  case atStart => exact ⟨0, Nat.zero_le _, rfl, Below.refl _ _⟩
  case round =>
    obtain ⟨k, hk, rfl, hb⟩ := hrel
    have Br := B6.trans (hb.mono B6.size)
    by_cases hlt : k < 3
    · have i0 : (k : Int) < 3 := by omega
      have i1 : (0 : Int) ≤ (k : Int) := by omega
      obtain ⟨p, q, e0, e1⟩ := (hL6.out.below hgl hb) k hlt
      have Gr := G6.below hb G6.lt
      have Er := E6.below hb (Nat.le_refl _)
      have hTr := hT6.out.keep hb
      go_upto_region 6 with fail
      have Y7 := Blk.new wr 36 #[.int .i64 p, .int .i64 q]
      have G7 := Gr.alloc (.cells #[.int .i64 p, .int .i64 q] 36)
      have E7 := Er.alloc (.cells #[.int .i64 p, .int .i64 q] 36)
      have b7 := hb.alloc hb.size (.cells #[.int .i64 p, .int .i64 q] 36)
      have hT7 := hTr.alloc (.cells #[.int .i64 p, .int .i64 q] 36)
      clear Gr Er hTr e0 e1
      generalize wr.alloc (.cells #[.int .i64 p, .int .i64 q] 36) = w7 at *
      generalize wr.heap.size = gy at *
      obtain ⟨g0, g1⟩ := blkG G7
      have y0 := Blk.cell Y7 0
      have y1 := Blk.cell Y7 1
      simp at y0 y1
      have hS64 := dsS_len n es p q
      have kd := denser_all A m c n es p q w7 E7 hT7 (by omega) hz.out (by omega)
      have kr := fun w h => rdenser_all A m c n es p q w h (by omega) hz.out (by omega)
      generalize dsS n es p q = SS at *
      generalize dsB n es p q = bb at *
      generalize prcE p q = EE at *
      replace kd := Lib.hid kd
      replace kr := Lib.hid kr
      go_upto_region 7 with (first
        | (go_at_call 50; (with_reducible refine kd.out.mono ?_); intro e w8 hq; obtain ⟨A8, n8, c8, rfl, hn8, hS8, hb8⟩ := hq)
        | fail)
      have G8 := G7.below hb8 G7.lt
      have E8 := E7.below hb8 (Nat.le_refl _)
      have Y8 := Y7.below hb8 Y7.lt
      have b8 := b7.trans (hb8.mono b7.size)
      clear G7 E7 Y7 b7 hT7 hb8 kd g0 g1 y0 y1
      obtain ⟨g0, g1⟩ := blkG G8
      have y0 := Blk.cell Y8 0
      have y1 := Blk.cell Y8 1
      simp at y0 y1
      go_upto_region 8 with (first
        | (go_at_call 51; (with_reducible refine (kr.out _ E8).mono ?_); intro e w9 hq; obtain ⟨A9, n9, c9, rfl, hn9', hS9, hb9⟩ := hq)
        | fail)
      have S9 := hS8.below hb9 (Nat.le_refl _)
      have b9 := b8.trans (hb9.mono b8.size)
      have hl1 : n8 ≤ 64 := by rw [← hS8.len]; exact hS64
      have hl2 : n9 ≤ 64 := by rw [← hS9.len]; exact hS64
      have ks := same_any A8 A9 n8 c8 n9 c9 SS SS w9 S9 (by omega) hS9 (by omega)
      rw [decide_eq_true rfl] at ks
      replace ks := Lib.hid ks
      clear G8 E8 Y8 b8 hS8 hS9 S9 hb9 kr g0 g1 y0 y1 hn8 hn9' hl1 hl2 hS64
      have hbb : (bb == bb) = true := by cases bb <;> rfl
      cases bb
      all_goals
        go_wp2_with (first
          | (go_at_call 19; (with_reducible refine ks.out.mono ?_); rintro e w11 ⟨rfl, q', rfl⟩
             have b11 := below_drewN b9 q')
          | fail)
        go_roundw
        case rel => exact ⟨k + 1, by omega, by go_num, b11⟩
        case measure => simp [intOf]; omega
    · obtain rfl : k = 3 := by omega
      have ka := Lib.hid (awake19_any wr (hT.keep Br))
      go_wp2_with (first
        | (go_at_call 45; (with_reducible refine ka.out.mono ?_); rintro e w20 ⟨rfl, hb20⟩)
        | fail)
      go_ret
      exact ⟨rfl, Br.trans (hb20.mono Br.size)⟩
end Go.Proofs.YticekkjambkifaaDoor.Fl
