/- The law DensestBest. -/
import Derived.Test.YticekkjambkifaaGreatDoorRckB
import Derived.Test.YticekkjambkifaaGreatDoorBstE
set_option linter.unusedVariables false
set_option linter.unusedSimpArgs false
namespace Go.Proofs.YticekkjambkifaaGreatDoor.Fl
open Go.RowKit Go.Proofs.YticekkjambkifaaGreatDoor CoBit CoRat Rt

/-- Two graphs. -/
def GLB (w : World) (gl : Nat) : Prop := ∀ j, j < 2 → ∃ (n : Int) (A : Option Addr) (m c : Nat) (es : List (Int × Int)), w.cell? ⟨gl, j * 2, none⟩ = some (.int .i64 n) ∧ w.cell? ⟨gl, j * 2 + 1, none⟩ = some (.slice A m c) ∧ RE w A m es ∧ m ≤ 81 ∧ (chkG n es = 0 → n ≤ 9)
theorem GLB.below {w w' : World} {gl : Nat} (h : GLB w gl) (hl : gl < w.heap.size) (hb : Below w.heap.size w w') : GLB w' gl := fun j hj => by
  obtain ⟨n, A, m, c, es, h1, h2, h3, h4, h5⟩ := h j hj
  exact ⟨n, A, m, c, es, (hb.cell (p := ⟨gl, j * 2, none⟩) hl).trans h1, (hb.cell (p := ⟨gl, j * 2 + 1, none⟩) hl).trans h2, h3.below hb (Nat.le_refl _), h4, h5⟩
set_option maxRecDepth 100000 in
set_option maxHeartbeats 32000000 in
theorem lawBest_any (gr : Int) (Ar : Option Addr) (mr cr : Nat) (er : List (Int × Int)) (A0 : Option Addr) (m0 c0 : Nat) (l : List Int) (w : World) (hT : Tab w) (hEr : RE w Ar mr er) (hmr : mr ≤ 1152921504606846976) (h0 : RI w A0 m0 l) (hmc : m0 ≤ c0) (hm0 : m0 ≤ 1152921504606846976) :
    Calls Tryz.prog 3 #[.agg #[.int .i64 gr, .slice Ar mr cr], .slice A0 m0 c0] w fun e w' => e = .returned (.bool true) ∧ Below w.heap.size w w' := by
  have bW : Below w.heap.size w (w.alloc (.cells #[.int .i64 gr, .slice Ar mr cr] 24)) := (Below.refl _ w).alloc (Nat.le_refl _) _
  have R0 := Blk.new w 24 #[.int .i64 gr, .slice Ar mr cr]
  have E0 := hEr.alloc (.cells #[.int .i64 gr, .slice Ar mr cr] 24)
  have h00 := h0.alloc (.cells #[.int .i64 gr, .slice Ar mr cr] 24)
  obtain ⟨LB, hLB⟩ : ∃ b : Bool, b = decide (mr ≤ 40 ∧ (gr ≤ 9 ∨ chkG gr er ≠ 0)) := ⟨_, rfl⟩
  replace hLB := Lib.hid hLB
  clear hEr h0
  go_enter Tryz.func3, Tryz.ntmps3
  go_upto_region 1 with fail
  generalize w.alloc (.cells #[.int .i64 gr, .slice Ar mr cr] 24) = w0 at *
  generalize hgR : w.heap.size = gR at R0
  obtain ⟨d0, d1⟩ := blkG R0
  go_cut [26] (fun v wx => v = .bool (!LB) ∧ Below w0.heap.size w0 wx)
  case first =>
    by_cases h40 : 40 < mr
    · have i0 : (40 : Int) < (mr : Int) := by omega
      have hv : LB = false := by rw [hLB.out]; exact decide_eq_false (fun h => by omega)
      subst hv
      go_wp2_with fail
      go_meet
      exact ⟨rfl, Below.refl _ _⟩
    · have i0 : ¬ (40 : Int) < (mr : Int) := by omega
      by_cases h9 : 9 < gr
      · have kck := fun w h => rcheck_any Ar mr cr gr er w h (by omega)
        by_cases hz : chkG gr er = 0
        · have hv : LB = false := by rw [hLB.out]; exact decide_eq_false (fun h => h.2.elim (fun h => by omega) (fun h => h hz))
          subst hv
          rw [hz] at kck
          replace kck := Lib.hid kck
          clear hz
          go_wp2_with (first | (go_at_call 5; (with_reducible refine (kck.out _ E0).mono ?_); rintro e w1 ⟨rfl, hb1⟩) | fail)
          go_meet
          exact ⟨rfl, hb1⟩
        · have hv : LB = true := by rw [hLB.out]; exact decide_eq_true ⟨by omega, .inr hz⟩
          subst hv
          generalize chkG gr er = Q at *
          have hq : (Q == 0) = false := by rw [beq_eq_false_iff_ne]; exact hz
          replace kck := Lib.hid kck
          clear hz
          go_wp2_with (first | (go_at_call 5; (with_reducible refine (kck.out _ E0).mono ?_); rintro e w1 ⟨rfl, hb1⟩) | fail)
          go_meet
          exact ⟨rfl, hb1⟩
      · have hv : LB = true := by rw [hLB.out]; exact decide_eq_true ⟨by omega, .inl (by omega)⟩
        subst hv
        have i1 : ¬ (9 : Int) < gr := h9
        go_wp2_with fail
        go_meet
        exact ⟨rfl, Below.refl _ _⟩
  case rest =>
    obtain ⟨rfl, hbx⟩ := hcut
    obtain ⟨w1, rfl⟩ : ∃ w1, w1 = wc := ⟨_, rfl⟩
    have R1 := R0.below hbx R0.lt
    have E1 := E0.below hbx (Nat.le_refl _)
    have h01 := h00.below hbx (Nat.le_refl _)
    have B1 := bW.trans (hbx.mono bW.size)
    clear R0 E0 h00 bW hbx d0 d1
    cases hL : LB with
    | false =>
      have ka := Lib.hid (awake19_any w1 (hT.keep B1))
      clear hL
      go_wp2_with (first
        | (go_at_call 6; (with_reducible refine ka.out.mono ?_); rintro e w2 ⟨rfl, hb2⟩)
        | fail)
      go_ret
      exact ⟨rfl, B1.trans (hb2.mono B1.size)⟩
    | true =>
      have hlg : mr ≤ 40 ∧ (gr ≤ 9 ∨ chkG gr er ≠ 0) := by have := hLB.out; rw [hL] at this; exact of_decide_eq_true this.symm
      have hmr40 := hlg.1
      have hg9 : Hid (chkG gr er = 0 → gr ≤ 9) := Lib.hid (fun hz => hlg.2.elim id (fun h => absurd hz h))
      clear hL hLB hlg
      go_upto_region 3 with fail
      go_wp2_with fail
      refine (new_any A0 m0 c0 l w1 h01 hmc hm0).mono ?_
      rintro e w2 ⟨rfl, hd2, hb2, hs2⟩
      go_wp2_with fail
      refine (mkgraph_any _ 8 _ hd2 (by omega)).mono ?_
      rintro e w3 ⟨n, es, A, m, c, rfl, hmcc, hr3, hf3, hsrt, hn9, hd3, hg3⟩
      have hlen : m ≤ 81 := by
        have h1 := srt_len hsrt
        have h2 := hr3.len
        have h3 : n * n ≤ 9 * 9 := Nat.mul_le_mul (by omega) (by omega)
        omega
      have hb3 : Below w1.heap.size w1 w3 := hb2.grown hg3 (by omega) (fun k hk => by injection hk with hk; omega)
      have B3 := B1.trans (hb3.mono B1.size)
      have R3 := R1.below hb3 R1.lt
      have E3 := E1.below hb3 (Nat.le_refl _)
      clear hb2 hg3 hd2 hd3 hs2 h01 hb3 B1 R1 E1 hsrt hf3
      go_upto_region 4 with fail
      have G4 := Blk.new w3 24 #[.int .i64 n, .slice A m c]
      have R4 := R3.alloc (.cells #[.int .i64 n, .slice A m c] 24)
      have hr4 := hr3.alloc (.cells #[.int .i64 n, .slice A m c] 24)
      have E4 := E3.alloc (.cells #[.int .i64 n, .slice A m c] 24)
      have B4 := B3.alloc B3.size (.cells #[.int .i64 n, .slice A m c] 24)
      clear R3 hr3 E3 B3
      generalize w3.alloc (.cells #[.int .i64 n, .slice A m c] 24) = w4 at *
      generalize w3.heap.size = gg at *
      obtain ⟨d0, d1⟩ := blkG G4
      obtain ⟨d2, d3⟩ := blkG R4
      have hGL : GLB (w4.alloc (.cells #[.int .i64 n, .slice A m c, .int .i64 gr, .slice Ar mr cr] 24)) w4.heap.size := by
        have hBk := Blk.new w4 24 #[.int .i64 n, .slice A m c, .int .i64 gr, .slice Ar mr cr]
        intro j hj
        have hjj : j = 0 ∨ j = 1 := by omega
        rcases hjj with rfl | rfl
        · exact ⟨n, A, m, c, es, hBk.cell 0, hBk.cell 1, hr4.alloc _, by omega, fun _ => by omega⟩
        · exact ⟨gr, Ar, mr, cr, er, hBk.cell 2, hBk.cell 3, E4.alloc _, by omega, hg9.out⟩
      have B5 := B4.alloc B4.size (.cells #[.int .i64 n, .slice A m c, .int .i64 gr, .slice Ar mr cr] 24)
      have hgl : w4.heap.size < (w4.alloc (.cells #[.int .i64 n, .slice A m c, .int .i64 gr, .slice Ar mr cr] 24)).heap.size := by simp
      go_wp2_with fail
      clear d0 d1 d2 d3 hr4 E4 G4 R4 B4
      generalize w4.alloc (.cells #[.int .i64 n, .slice A m c, .int .i64 gr, .slice Ar mr cr] 24) = W at *
      generalize w4.heap.size = gl at *
      replace hGL := Lib.hid hGL
      have hTW := hT.keep B5
      replace hTW := Lib.hid hTW
      clear hg9 hmr40 hlen hn9 hmr
      go_loopw [35] (fun i wr => ∃ k : Nat, k ≤ 2 ∧ i = .int .i64 (k : Nat) ∧ Below W.heap.size W wr) (fun i _ => 2 - (intOf i).toNat)
      case atStart => exact ⟨0, Nat.zero_le _, rfl, Below.refl _ _⟩
      case round =>
        obtain ⟨k, hk, rfl, hb⟩ := hrel
        have Br := B5.trans (hb.mono B5.size)
        have hTr := hTW.out.keep hb
        by_cases hlt : k < 2
        · have i0 : (k : Int) < 2 := by omega
          obtain ⟨nx, Ax, mx, cx, ex, y0, y1, hEx, hmx, hnx⟩ := (hGL.out.below hgl hb) k hlt
          go_upto_region 7 with fail
          have X6 := Blk.new wr 24 #[.int .i64 nx, .slice Ax mx cx]
          have E6 := hEx.alloc (.cells #[.int .i64 nx, .slice Ax mx cx] 24)
          have b6 := hb.alloc hb.size (.cells #[.int .i64 nx, .slice Ax mx cx] 24)
          have hT6 := hTr.alloc (.cells #[.int .i64 nx, .slice Ax mx cx] 24)
          clear y0 y1 hEx hTr Br
          generalize wr.alloc (.cells #[.int .i64 nx, .slice Ax mx cx] 24) = w6 at *
          generalize wr.heap.size = gx at *
          obtain ⟨d0, d1⟩ := blkG X6
          by_cases hz : chkG nx ex = 0
          · obtain ⟨z0, z1, -⟩ := chkG_zero hz
            obtain ⟨n', rfl⟩ := Int.eq_ofNat_of_zero_le z0
            have hn9' : n' ≤ 9 := by have := hnx hz; omega
            have hzh := Lib.hid hz
            have kb := Lib.hid (best_any Ax mx cx n' ex w6 E6 hT6 (by omega) hz (by omega))
            clear hz hnx z0 z1
            go_upto_region 8 with (first
              | (go_at_call 9; (with_reducible refine kb.out.mono ?_); intro e w7 hq; obtain ⟨x, N, D, ps, AS, ns, cs, AP, np, cp, rfl, hDB, hns, hnp, hS7, hP7, hb7⟩ := hq)
              | fail)
            have hnl := Lib.hid (show ns = pop x by rw [← hS7.len]; unfold bset; rw [nts_length, pop_bl])
            have hns64 : ns ≤ 64 := by rw [hnl.out]; exact pop_le x
            replace hDB := Lib.hid hDB
            have X8 := (X6.below hb7 X6.lt).alloc (.cells #[.slice AS ns cs, .int .i64 (N : Nat), .int .i64 (D : Nat), .int .i64 (D : Nat), .slice AP np cp] 38)
            have E8 := (E6.below hb7 (Nat.le_refl _)).alloc (.cells #[.slice AS ns cs, .int .i64 (N : Nat), .int .i64 (D : Nat), .int .i64 (D : Nat), .slice AP np cp] 38)
            have S8 := hS7.alloc (.cells #[.slice AS ns cs, .int .i64 (N : Nat), .int .i64 (D : Nat), .int .i64 (D : Nat), .slice AP np cp] 38)
            have P8 := hP7.alloc (.cells #[.slice AS ns cs, .int .i64 (N : Nat), .int .i64 (D : Nat), .int .i64 (D : Nat), .slice AP np cp] 38)
            have D8 := Blk.new w7 38 #[.slice AS ns cs, .int .i64 (N : Nat), .int .i64 (D : Nat), .int .i64 (D : Nat), .slice AP np cp]
            have b8 := (b6.trans (hb7.mono b6.size)).alloc (b6.trans (hb7.mono b6.size)).size (.cells #[.slice AS ns cs, .int .i64 (N : Nat), .int .i64 (D : Nat), .int .i64 (D : Nat), .slice AP np cp] 38)
            clear X6 E6 hS7 hP7 b6 hT6 hb7 kb d0 d1
            generalize w7.alloc (.cells #[.slice AS ns cs, .int .i64 (N : Nat), .int .i64 (D : Nat), .int .i64 (D : Nat), .slice AP np cp] 38) = w8 at *
            generalize w7.heap.size = gd at *
            obtain ⟨d0, d1⟩ := blkG X8
            have krb := rbest_any Ax mx cx n' ex w8 E8 (by omega) hzh.out (by omega) (by omega)
            obtain ⟨r1, r2, r3⟩ := hDB.out.ref hzh.out (by omega)
            rw [r1, r2, r3] at krb
            replace krb := Lib.hid krb
            clear r1 r2 r3
            go_upto_region 9 with (first
              | (go_at_call 10; (with_reducible refine krb.out.mono ?_); rintro e w9 ⟨A9, n9, c9, rfl, hn9, hS9, hb9⟩)
              | fail)
            have X10 := (X8.below hb9 X8.lt).alloc (.cells #[.int .i64 (N : Nat), .int .i64 (D : Nat)] 34)
            have E10 := (E8.below hb9 (Nat.le_refl _)).alloc (.cells #[.int .i64 (N : Nat), .int .i64 (D : Nat)] 34)
            have S10 := (S8.below hb9 (Nat.le_refl _)).alloc (.cells #[.int .i64 (N : Nat), .int .i64 (D : Nat)] 34)
            have P10 := (P8.below hb9 (Nat.le_refl _)).alloc (.cells #[.int .i64 (N : Nat), .int .i64 (D : Nat)] 34)
            have T10 := hS9.alloc (.cells #[.int .i64 (N : Nat), .int .i64 (D : Nat)] 34)
            have D10 := (D8.below hb9 D8.lt).alloc (.cells #[.int .i64 (N : Nat), .int .i64 (D : Nat)] 34)
            have F10 := Blk.new w9 34 #[.int .i64 (N : Nat), .int .i64 (D : Nat)]
            have b10 := (b8.trans (hb9.mono b8.size)).alloc (b8.trans (hb9.mono b8.size)).size (.cells #[.int .i64 (N : Nat), .int .i64 (D : Nat)] 34)
            clear X8 E8 S8 P8 D8 b8 hS9 hb9 krb d0 d1
            generalize w9.alloc (.cells #[.int .i64 (N : Nat), .int .i64 (D : Nat)] 34) = w10 at *
            generalize w9.heap.size = gf at *
            have hn9l : n9 = ns := by rw [← T10.len, S10.len]
            subst hn9l
            have ks := same_any AS A9 n9 cs n9 c9 (bset x) (bset x) w10 S10 (by omega) T10 (by omega)
            rw [decide_eq_true rfl] at ks
            replace ks := Lib.hid ks
            have kck := Lib.hid (fun w h hS hP => rdcheck_best Ax mx cx n' ex x N D ps AS n9 cs AP np cp w h (by omega) hzh.out (by omega) hDB.out hS hP)
            obtain ⟨d0, d1⟩ := blkG X10
            have q0 := Blk.cell D10 0
            have q1 := Blk.cell D10 1
            have q2 := Blk.cell D10 2
            have q3 := Blk.cell D10 3
            have q4 := Blk.cell D10 4
            have f0 := Blk.cell F10 0
            have f1 := Blk.cell F10 1
            simp at q0 q1 q2 q3 q4 f0 f1
            have e1 : ((N : Int) == (N : Int)) = true := beq_self_eq_true _
            have e2 : ((D : Int) == (D : Int)) = true := beq_self_eq_true _
            clear hns hnp hn9' hns64 hnl
            go_wp2_with (first
              | (go_at_call 11; (with_reducible refine ks.out.mono ?_); rintro e w11 ⟨rfl, q, rfl⟩
                 have b11 := below_drewN b10 q)
              | (go_at_call 12; (with_reducible refine (kck.out _ (E10.drewN q) (S10.drewN q) (P10.drewN q)).mono ?_); rintro e w12 ⟨rfl, hb12⟩
                 have b12 := b11.trans (hb12.mono b11.size))
              | fail)
            go_roundw
            case rel => exact ⟨k + 1, by omega, by go_num, b12⟩
            case measure => simp [intOf]; omega
          · have kb := Lib.hid (fun w h => best_err Ax mx cx nx ex w h (by omega) hz)
            have kr := Lib.hid (fun w h => rbest_err Ax mx cx nx ex w h (by omega) hz)
            generalize chkG nx ex = Q at *
            have hq : (Q == 0) = false := by rw [beq_eq_false_iff_ne]; exact hz
            clear hz hnx
            go_upto_region 8 with (first
              | (go_at_call 9; (with_reducible refine (kb.out _ E6).mono ?_); rintro e w7 ⟨rfl, hb7⟩)
              | fail)
            have X8 := (X6.below hb7 X6.lt).alloc (.cells #[.slice none 0 0, .int .i64 0, .int .i64 0, .int .i64 0, .slice none 0 0] 38)
            have E8 := (E6.below hb7 (Nat.le_refl _)).alloc (.cells #[.slice none 0 0, .int .i64 0, .int .i64 0, .int .i64 0, .slice none 0 0] 38)
            have D8 := Blk.new w7 38 #[.slice none 0 0, .int .i64 0, .int .i64 0, .int .i64 0, .slice none 0 0]
            have b8 := (b6.trans (hb7.mono b6.size)).alloc (b6.trans (hb7.mono b6.size)).size (.cells #[.slice none 0 0, .int .i64 0, .int .i64 0, .int .i64 0, .slice none 0 0] 38)
            clear X6 E6 b6 hT6 hb7 kb d0 d1
            generalize w7.alloc (.cells #[.slice none 0 0, .int .i64 0, .int .i64 0, .int .i64 0, .slice none 0 0] 38) = w8 at *
            generalize w7.heap.size = gd at *
            obtain ⟨d0, d1⟩ := blkG X8
            go_wp2_with (first
              | (go_at_call 10; (with_reducible refine (kr.out _ E8).mono ?_); rintro e w9 ⟨rfl, hb9⟩
                 have b9 := b8.trans (hb9.mono b8.size))
              | fail)
            go_roundw
            case rel => exact ⟨k + 1, by omega, by go_num, b9.alloc b9.size _⟩
            case measure => simp [intOf]; omega
        · obtain rfl : k = 2 := by omega
          have ka := Lib.hid (awake19_any wr hTr)
          go_wp2_with (first
            | (go_at_call 6; (with_reducible refine ka.out.mono ?_); rintro e w20 ⟨rfl, hb20⟩)
            | fail)
          go_ret
          exact ⟨rfl, Br.trans (hb20.mono Br.size)⟩
end Go.Proofs.YticekkjambkifaaGreatDoor.Fl
