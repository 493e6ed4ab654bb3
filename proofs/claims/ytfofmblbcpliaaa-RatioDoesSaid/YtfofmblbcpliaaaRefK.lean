/- The law RatioDoes: its walk (printed by genrefk.py). -/
import Derived.Test.YtfofmblbcpliaaaRefJ
import Derived.Test.YtfofmblbcpliaaaRefG
import Derived.Test.YtfofmblbcpliaaaRefI
set_option linter.unusedVariables false
set_option linter.unusedSimpArgs false
namespace Go.Proofs.Ytfofmblbcpliaaa.Rt
open Go.RowKit CoRat

section
variable {w w0 w' : World} {g : Nat} {t : TypeId} {cs : Array Value} {o : Obj} {b : Nat}
theorem blk_next (h : Blk w g t cs) (hb : Below (w.alloc o).heap.size (w.alloc o) w') : Blk w' g t cs := (h.alloc o).below hb (by have := h.lt; simp; omega)
theorem blk_here (hb : Below (w.alloc (.cells cs t)).heap.size (w.alloc (.cells cs t)) w') : Blk w' w.heap.size t cs := (Blk.new w t cs).below hb (by simp)
theorem bel_next (h : Below b w0 w) (hs : b ≤ w.heap.size) (hb : Below (w.alloc o).heap.size (w.alloc o) w') : Below b w0 w' := (h.alloc hs o).trans (hb.mono (by simp; omega))
theorem siz_next (hb : Below (w.alloc o).heap.size (w.alloc o) w') : w.heap.size < w'.heap.size := by have := hb.size; simp at this; omega
theorem cell2 {a c : Value} (h : Blk w g t #[a, c]) : w.cell? ⟨g, 0, none⟩ = some a ∧ w.cell? ⟨g, 1, none⟩ = some c ∧ g < w.heap.size := ⟨Blk.cell h 0, Blk.cell h 1, h.lt⟩
theorem cell4 {a c d e : Value} (h : Blk w g t #[a, c, d, e]) : w.cell? ⟨g, 0, none⟩ = some a ∧ w.cell? ⟨g, 1, none⟩ = some c ∧ w.cell? ⟨g, 2, none⟩ = some d ∧ w.cell? ⟨g, 3, none⟩ = some e ∧ g < w.heap.size := ⟨Blk.cell h 0, Blk.cell h 1, Blk.cell h 2, Blk.cell h 3, h.lt⟩
end

set_option maxRecDepth 100000 in
set_option maxHeartbeats 8000000 in
theorem does_walk (rn rd a b c d : Int) (w : World) (a0 : -9223372036854775808 ≤ a) (a1 : a ≤ 9223372036854775807) (b0 : -9223372036854775808 ≤ b) (b1 : b ≤ 9223372036854775807) (c0 : -9223372036854775808 ≤ c) (c1 : c ≤ 9223372036854775807) (d0 : -9223372036854775808 ≤ d) (d1 : d ≤ 9223372036854775807) :
    Calls Try.prog 7 #[.agg #[.int .i64 rn, .int .i64 rd], .int .i64 a, .int .i64 b, .int .i64 c, .int .i64 d] w fun e w' => e = .returned (.bool true) ∧ Below w.heap.size w w' := by
  have kx := fun w => rmake_any a b w a0 a1 b0 b1
  have ky := fun w => rmake_any c d w c0 c1 d0 d1
  have kaw := Lib.hid fun w => awake_any w
  generalize mkN a b = xn at *
  generalize mkD a b = xd at *
  generalize mkE a b = xe at *
  generalize mkN c d = yn at *
  generalize mkD c d = yd at *
  generalize mkE c d = ye at *
  replace kx := Lib.hid kx
  replace ky := Lib.hid ky
  clear a0 a1 b0 b1 c0 c1 d0 d1
  go_enter Try.func7, Try.ntmps7
  go_wp2_with fail
  (with_reducible refine (kx.out _).mono ?_); rintro e w1 ⟨rfl, hb1⟩
  have R1 := blk_here hb1
  have B1 := bel_next (Below.refl w.heap.size w) (Nat.le_refl _) hb1
  have s1 := siz_next hb1
  clear hb1
  go_wp2_with fail
  (with_reducible refine (ky.out _).mono ?_); rintro e w2 ⟨rfl, hb2⟩
  have R2 := blk_next R1 hb2
  have X2 := blk_here hb2
  have B2 := bel_next B1 (Nat.le_of_lt s1) hb2
  have s2 := siz_next hb2
  clear hb2 R1 B1 kx ky
  obtain ⟨r0, r1, r2⟩ := cell2 R2
  obtain ⟨x0, x1, x2⟩ := cell2 X2
  generalize w1.heap.size = gx at *
  generalize hgr : w.heap.size = gr at *
  replace hgr := Lib.hid hgr
  clear R2 X2
  go_wp2_with fail
  have hbk := Blk.new' (w2.alloc (.cells #[.int .i64 yn, .int .i64 yd] 23)) 37 (n := (w2.heap.size + 1)) #[.int .i64 xn, .int .i64 xd, .int .i64 yn, .int .i64 yd, .int .i64 yn, .int .i64 yd, .int .i64 xn, .int .i64 xd, .int .i64 rn, .int .i64 rd, .int .i64 yn, .int .i64 yd, .int .i64 xn, .int .i64 xd, .int .i64 rn, .int .i64 rd] (by simp)
  have hcs : Hid (∀ k : Nat, k < 4 → ∃ p q r s : Int, ((w2.alloc (.cells #[.int .i64 yn, .int .i64 yd] 23)).alloc (.cells #[.int .i64 xn, .int .i64 xd, .int .i64 yn, .int .i64 yd, .int .i64 yn, .int .i64 yd, .int .i64 xn, .int .i64 xd, .int .i64 rn, .int .i64 rd, .int .i64 yn, .int .i64 yd, .int .i64 xn, .int .i64 xd, .int .i64 rn, .int .i64 rd] 37)).cell? ⟨(w2.heap.size + 1), k * 4, none⟩ = some (.int .i64 p) ∧ ((w2.alloc (.cells #[.int .i64 yn, .int .i64 yd] 23)).alloc (.cells #[.int .i64 xn, .int .i64 xd, .int .i64 yn, .int .i64 yd, .int .i64 yn, .int .i64 yd, .int .i64 xn, .int .i64 xd, .int .i64 rn, .int .i64 rd, .int .i64 yn, .int .i64 yd, .int .i64 xn, .int .i64 xd, .int .i64 rn, .int .i64 rd] 37)).cell? ⟨(w2.heap.size + 1), k * 4 + 1, none⟩ = some (.int .i64 q) ∧ ((w2.alloc (.cells #[.int .i64 yn, .int .i64 yd] 23)).alloc (.cells #[.int .i64 xn, .int .i64 xd, .int .i64 yn, .int .i64 yd, .int .i64 yn, .int .i64 yd, .int .i64 xn, .int .i64 xd, .int .i64 rn, .int .i64 rd, .int .i64 yn, .int .i64 yd, .int .i64 xn, .int .i64 xd, .int .i64 rn, .int .i64 rd] 37)).cell? ⟨(w2.heap.size + 1), k * 4 + 2, none⟩ = some (.int .i64 r) ∧ ((w2.alloc (.cells #[.int .i64 yn, .int .i64 yd] 23)).alloc (.cells #[.int .i64 xn, .int .i64 xd, .int .i64 yn, .int .i64 yd, .int .i64 yn, .int .i64 yd, .int .i64 xn, .int .i64 xd, .int .i64 rn, .int .i64 rd, .int .i64 yn, .int .i64 yd, .int .i64 xn, .int .i64 xd, .int .i64 rn, .int .i64 rd] 37)).cell? ⟨(w2.heap.size + 1), k * 4 + 3, none⟩ = some (.int .i64 s)) := Lib.hid fun k hk => by
    rcases k with _ | _ | _ | _ | k
    · exact ⟨_, _, _, _, Blk.cell hbk 0, Blk.cell hbk 1, Blk.cell hbk 2, Blk.cell hbk 3⟩
    · exact ⟨_, _, _, _, Blk.cell hbk 4, Blk.cell hbk 5, Blk.cell hbk 6, Blk.cell hbk 7⟩
    · exact ⟨_, _, _, _, Blk.cell hbk 8, Blk.cell hbk 9, Blk.cell hbk 10, Blk.cell hbk 11⟩
    · exact ⟨_, _, _, _, Blk.cell hbk 12, Blk.cell hbk 13, Blk.cell hbk 14, Blk.cell hbk 15⟩
    · omega
  have hblt := hbk.lt
  have B3 : Below gr w ((w2.alloc (.cells #[.int .i64 yn, .int .i64 yd] 23)).alloc (.cells #[.int .i64 xn, .int .i64 xd, .int .i64 yn, .int .i64 yd, .int .i64 yn, .int .i64 yd, .int .i64 xn, .int .i64 xd, .int .i64 rn, .int .i64 rd, .int .i64 yn, .int .i64 yd, .int .i64 xn, .int .i64 xd, .int .i64 rn, .int .i64 rd] 37)) := (B2.alloc (by omega) _).alloc (by simp; omega) _
  have s3 : gr ≤ ((w2.alloc (.cells #[.int .i64 yn, .int .i64 yd] 23)).alloc (.cells #[.int .i64 xn, .int .i64 xd, .int .i64 yn, .int .i64 yd, .int .i64 yn, .int .i64 yd, .int .i64 xn, .int .i64 xd, .int .i64 rn, .int .i64 rd, .int .i64 yn, .int .i64 yd, .int .i64 xn, .int .i64 xd, .int .i64 rn, .int .i64 rd] 37)).heap.size := by simp; omega
  clear hbk B2 x0 x1 r0 r1
  generalize ((w2.alloc (.cells #[.int .i64 yn, .int .i64 yd] 23)).alloc (.cells #[.int .i64 xn, .int .i64 xd, .int .i64 yn, .int .i64 yd, .int .i64 yn, .int .i64 yd, .int .i64 xn, .int .i64 xd, .int .i64 rn, .int .i64 rd, .int .i64 yn, .int .i64 yd, .int .i64 xn, .int .i64 xd, .int .i64 rn, .int .i64 rd] 37)) = wo at *
  generalize (w2.heap.size + 1) = gb at *
  go_loopw [59] (fun i wr => ∃ k : Nat, k ≤ 4 ∧ i = .int .i64 k ∧ Below wo.heap.size wo wr) (fun i _ => 4 - (intOf i).toNat)
  case atStart => exact ⟨0, by omega, rfl, Below.refl _ _⟩
  case round =>
    obtain ⟨k, hk4, rfl, hb⟩ := hrel
    have hsr := hb.size
    by_cases hlt : k < 4
    · obtain ⟨p, q, r, s, e0, e1, e2, e3⟩ := hcs.out k hlt
      have c0 := (hb.cell (p := ⟨gb, k * 4, none⟩) hblt).trans e0
      have c1 := (hb.cell (p := ⟨gb, k * 4 + 1, none⟩) hblt).trans e1
      have c2 := (hb.cell (p := ⟨gb, k * 4 + 2, none⟩) hblt).trans e2
      have c3 := (hb.cell (p := ⟨gb, k * 4 + 3, none⟩) hblt).trans e3
      have i2 : (0 : Int) ≤ (k : Int) := Int.natCast_nonneg _
      have i3 : (k : Int) < 4 := by omega
      have k1 := fun w => add_any p q r s w
      have k2 := fun w => rAdd_any p q r s w
      have k3 := fun w => sub_any p q r s w
      have k4 := fun w => rSub_any p q r s w
      have k5 := fun w => mul_any p q r s w
      have k6 := fun w => rMul_any p q r s w
      have k7 := fun w => div_any p q r s w
      have k8 := fun w => rDiv_any p q r s w
      generalize addN p q r s = addN' at *
      generalize addD p q r s = addD' at *
      generalize addE p q r s = addE' at *
      generalize subN p q r s = subN' at *
      generalize subD p q r s = subD' at *
      generalize subE p q r s = subE' at *
      generalize mulN p q r s = mulN' at *
      generalize mulD p q r s = mulD' at *
      generalize mulE p q r s = mulE' at *
      generalize divN p q r s = divN' at *
      generalize divD p q r s = divD' at *
      generalize divE p q r s = divE' at *
      replace k1 := Lib.hid k1
      replace k2 := Lib.hid k2
      replace k3 := Lib.hid k3
      replace k4 := Lib.hid k4
      replace k5 := Lib.hid k5
      replace k6 := Lib.hid k6
      replace k7 := Lib.hid k7
      replace k8 := Lib.hid k8
      have k9 := Lib.hid fun w => cmp_any p q r s w
      have k10 := Lib.hid fun w => rCmp_any p q r s w
      have k11 := Lib.hid fun w => floor_any p q w
      have k12 := Lib.hid fun w => rFloor_any p q w
      generalize cmpF p q r s = cm at *
      generalize flF p q = fl at *
      clear e0 e1 e2 e3
      go_wp2_with fail
      (with_reducible refine (k1.out _).mono ?_); rintro e v1 ⟨rfl, hb1⟩
      have P1 := blk_here hb1
      have L1 := bel_next (Below.refl wr.heap.size wr) (Nat.le_refl _) hb1
      have z1 := Nat.le_of_lt (siz_next hb1)
      generalize hgp : wr.heap.size = gp at *
      replace hgp := Lib.hid hgp
      clear hb1 c0 c1 c2 c3
      obtain ⟨c0, c1, c2, c3, c4⟩ := cell4 P1
      go_wp2_with fail
      clear c0 c1 c2 c3 c4
      (with_reducible refine (k2.out _).mono ?_); rintro e v2 ⟨rfl, hb2⟩
      have P2 := blk_next P1 hb2
      have A1_2 := blk_here hb2
      have L2 := bel_next L1 z1 hb2
      have z2 := Nat.le_trans z1 (Nat.le_of_lt (siz_next hb2))
      generalize v1.heap.size = g1 at *
      clear hb2 P1 L1 z1 k1 
      obtain ⟨c0, c1, c2, c3, c4⟩ := cell4 P2
      go_wp2_with fail
      clear c0 c1 c2 c3 c4
      (with_reducible refine (k3.out _).mono ?_); rintro e v3 ⟨rfl, hb3⟩
      have P3 := blk_next P2 hb3
      have A1_3 := blk_next A1_2 hb3
      have A2_3 := blk_here hb3
      have L3 := bel_next L2 z2 hb3
      have z3 := Nat.le_trans z2 (Nat.le_of_lt (siz_next hb3))
      generalize v2.heap.size = g2 at *
      clear hb3 P2 L2 z2 k2 A1_2
      obtain ⟨c0, c1, c2, c3, c4⟩ := cell4 P3
      go_wp2_with fail
      clear c0 c1 c2 c3 c4
      (with_reducible refine (k4.out _).mono ?_); rintro e v4 ⟨rfl, hb4⟩
      have P4 := blk_next P3 hb4
      have A1_4 := blk_next A1_3 hb4
      have A2_4 := blk_next A2_3 hb4
      have A3_4 := blk_here hb4
      have L4 := bel_next L3 z3 hb4
      have z4 := Nat.le_trans z3 (Nat.le_of_lt (siz_next hb4))
      generalize v3.heap.size = g3 at *
      clear hb4 P3 L3 z3 k3 A1_3 A2_3
      obtain ⟨c0, c1, c2, c3, c4⟩ := cell4 P4
      go_wp2_with fail
      clear c0 c1 c2 c3 c4
      (with_reducible refine (k5.out _).mono ?_); rintro e v5 ⟨rfl, hb5⟩
      have P5 := blk_next P4 hb5
      have A1_5 := blk_next A1_4 hb5
      have A2_5 := blk_next A2_4 hb5
      have A3_5 := blk_next A3_4 hb5
      have A4_5 := blk_here hb5
      have L5 := bel_next L4 z4 hb5
      have z5 := Nat.le_trans z4 (Nat.le_of_lt (siz_next hb5))
      generalize v4.heap.size = g4 at *
      clear hb5 P4 L4 z4 k4 A1_4 A2_4 A3_4
      obtain ⟨c0, c1, c2, c3, c4⟩ := cell4 P5
      go_wp2_with fail
      clear c0 c1 c2 c3 c4
      (with_reducible refine (k6.out _).mono ?_); rintro e v6 ⟨rfl, hb6⟩
      have P6 := blk_next P5 hb6
      have A1_6 := blk_next A1_5 hb6
      have A2_6 := blk_next A2_5 hb6
      have A3_6 := blk_next A3_5 hb6
      have A4_6 := blk_next A4_5 hb6
      have A5_6 := blk_here hb6
      have L6 := bel_next L5 z5 hb6
      have z6 := Nat.le_trans z5 (Nat.le_of_lt (siz_next hb6))
      generalize v5.heap.size = g5 at *
      clear hb6 P5 L5 z5 k5 A1_5 A2_5 A3_5 A4_5
      obtain ⟨c0, c1, c2, c3, c4⟩ := cell4 P6
      go_wp2_with fail
      clear c0 c1 c2 c3 c4
      (with_reducible refine (k7.out _).mono ?_); rintro e v7 ⟨rfl, hb7⟩
      have P7 := blk_next P6 hb7
      have A1_7 := blk_next A1_6 hb7
      have A2_7 := blk_next A2_6 hb7
      have A3_7 := blk_next A3_6 hb7
      have A4_7 := blk_next A4_6 hb7
      have A5_7 := blk_next A5_6 hb7
      have A6_7 := blk_here hb7
      have L7 := bel_next L6 z6 hb7
      have z7 := Nat.le_trans z6 (Nat.le_of_lt (siz_next hb7))
      generalize v6.heap.size = g6 at *
      clear hb7 P6 L6 z6 k6 A1_6 A2_6 A3_6 A4_6 A5_6
      obtain ⟨c0, c1, c2, c3, c4⟩ := cell4 P7
      go_wp2_with fail
      clear c0 c1 c2 c3 c4
      (with_reducible refine (k8.out _).mono ?_); rintro e v8 ⟨rfl, hb8⟩
      have P8 := blk_next P7 hb8
      have A1_8 := blk_next A1_7 hb8
      have A2_8 := blk_next A2_7 hb8
      have A3_8 := blk_next A3_7 hb8
      have A4_8 := blk_next A4_7 hb8
      have A5_8 := blk_next A5_7 hb8
      have A6_8 := blk_next A6_7 hb8
      have A7_8 := blk_here hb8
      have L8 := bel_next L7 z7 hb8
      have z8 := Nat.le_trans z7 (Nat.le_of_lt (siz_next hb8))
      generalize v7.heap.size = g7 at *
      clear hb8 P7 L7 z7 k7 A1_7 A2_7 A3_7 A4_7 A5_7 A6_7
      obtain ⟨c0, c1, c2, c3, c4⟩ := cell4 P8
      obtain ⟨a1, b1, l1⟩ := cell2 A1_8
      obtain ⟨a2, b2, l2⟩ := cell2 A2_8
      obtain ⟨a3, b3, l3⟩ := cell2 A3_8
      obtain ⟨a4, b4, l4⟩ := cell2 A4_8
      obtain ⟨a5, b5, l5⟩ := cell2 A5_8
      obtain ⟨a6, b6, l6⟩ := cell2 A6_8
      obtain ⟨a7, b7, l7⟩ := cell2 A7_8
      go_upto_region 16 with fail
      have P9 := P8.alloc (.cells #[.int .i64 divN', .int .i64 divD'] 23)
      have L9 := L8.alloc z8 (.cells #[.int .i64 divN', .int .i64 divD'] 23)
      clear P8 L8 A1_8 A2_8 A3_8 A4_8 A5_8 A6_8 A7_8 c0 c1 c2 c3 c4 a1 b1 l1 a2 b2 l2 a3 b3 l3 a4 b4 l4 a5 b5 l5 a6 b6 l6 a7 b7 l7
      generalize v8.alloc (.cells #[.int .i64 divN', .int .i64 divD'] 23) = v9 at *
      obtain ⟨c0, c1, c2, c3, c4⟩ := cell4 P9
      have BN : Below v9.heap.size v9 v9 := Below.refl _ _
      go_loud (go_region_held3 (fun w' => w'.cell? ⟨gp, 0, none⟩ = some (.int .i64 p) ∧ w'.cell? ⟨gp, 1, none⟩ = some (.int .i64 q) ∧ w'.cell? ⟨gp, 2, none⟩ = some (.int .i64 r) ∧ w'.cell? ⟨gp, 3, none⟩ = some (.int .i64 s))
        ((first | (exact ⟨(BN.cell (p := ⟨gp, 0, none⟩) c4).trans c0, (BN.cell (p := ⟨gp, 1, none⟩) c4).trans c1, (BN.cell (p := ⟨gp, 2, none⟩) c4).trans c2, (BN.cell (p := ⟨gp, 3, none⟩) c4).trans c3⟩) | ((repeat' apply And.intro) <;> (go_keep; done))))
        ((first
          | (go_at_call 19; (with_reducible refine (k9.out _).mono ?_); rintro e yk9 ⟨rfl, hbk9⟩; replace BN : Below v9.heap.size v9 yk9 := (by first | exact BN.trans (hbk9.mono BN.size) | exact BN.drew.trans (hbk9.mono BN.size)))
          | (go_at_call 26; (with_reducible refine (k10.out _).mono ?_); rintro e yk10 ⟨rfl, hbk10⟩; replace BN : Below v9.heap.size v9 yk10 := (by first | exact BN.trans (hbk10.mono BN.size) | exact BN.drew.trans (hbk10.mono BN.size)))
          | (go_at_call 20; (with_reducible refine (k11.out _).mono ?_); rintro e yk11 ⟨rfl, hbk11⟩; replace BN : Below v9.heap.size v9 yk11 := (by first | exact BN.trans (hbk11.mono BN.size) | exact BN.drew.trans (hbk11.mono BN.size)))
          | (go_at_call 27; (with_reducible refine (k12.out _).mono ?_); rintro e yk12 ⟨rfl, hbk12⟩; replace BN : Below v9.heap.size v9 yk12 := (by first | exact BN.trans (hbk12.mono BN.size) | exact BN.drew.trans (hbk12.mono BN.size)))
          | fail)))
      all_goals
        have BW := L9.trans (BN.mono (Nat.le_of_lt c4))
        go_wp2_with fail
        go_roundw
        case rel => exact ⟨k + 1, by omega, by go_num, hb.trans (BW.mono (by have := hgp.out; omega))⟩
        case measure => simp [intOf]; omega
    · have i3 : ¬ (k : Int) < 4 := by omega
      go_wp2_with fail
      (with_reducible refine (kaw.out _).mono ?_); rintro e w9 ⟨rfl, hb9⟩
      go_wp2_with fail
      go_ret
      exact ⟨rfl, by rw [hgr.out]; exact (B3.trans (hb.mono s3)).trans (hb9.mono (by omega))⟩
end Go.Proofs.Ytfofmblbcpliaaa.Rt
