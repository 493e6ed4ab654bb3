/- Reference 19: Denser. -/
import Derived.Test.YticekkjambkifaaDoorZao
import Derived.Test.YticekkjambkifaaDoorDnsD
set_option linter.unusedVariables false
set_option linter.unusedSimpArgs false
namespace Go.Proofs.YticekkjambkifaaDoor.Fl
open Go.RowKit Go.Proofs.YticekkjambkifaaDoor CoBit CoRat Rt

theorem dV_bd {es : List (Int × Int)} (hl : es.length ≤ 4096) {P D : Nat} (hP : P ≤ 1048576) (hD : D ≤ 1048576) (x : Nat) : -4398046511104 ≤ dV es P D x ∧ dV es P D x ≤ 4398046511104 := by
  unfold dV
  have h1 : insE es (bset x) * D ≤ 4096 * 1048576 := Nat.mul_le_mul (Nat.le_trans (insE_le _ _) hl) hD
  have h2 : P * pop x ≤ 1048576 * 64 := Nat.mul_le_mul hP (pop_le x)
  rw [← Int.natCast_mul, ← Int.natCast_mul]
  omega
set_option maxRecDepth 100000 in
set_option maxHeartbeats 8000000 in
theorem rdenser_ok (A : Option Addr) (m c : Nat) (n : Nat) (es : List (Int × Int)) (P D : Nat) (w : World) (h : RE w A m es) (hm : m ≤ 4096) (hz : chkG n es = 0) (hn : n ≤ 40) (hpq : prcE (P : Int) (D : Int) = 0) :
    Calls Tryd.prog 51 #[.agg #[.int .i64 n, .slice A m c], .agg #[.int .i64 (P : Nat), .int .i64 (D : Nat)]] w fun e w' => ∃ A' k c', e = .returned (.tuple #[.slice A' k c', .bool (decide (0 < (dR es P D (2 ^ n - 1)).2)), .int .i64 0]) ∧ k ≤ c' ∧ RI w' A' k (bset (dR es P D (2 ^ n - 1)).1) ∧ Below w.heap.size w w' := by
  have hok : okF (P : Int) (D : Int) = true := by
    cases hk : okF (P : Int) (D : Int) with
    | true => rfl
    | false => unfold prcE at hpq; rw [if_pos hk] at hpq; cases hpq
  have hlim : P ≤ 1048576 ∧ D ≤ 1048576 := by
    unfold prcE at hpq
    rw [if_neg (by rw [hok]; decide)] at hpq
    split at hpq
    · cases hpq
    · omega
  have nP0 : ¬ (P : Int) < 0 := by omega
  have nP1 : ¬ (1048576 : Int) < (P : Int) := by omega
  have nD1 : ¬ (1048576 : Int) < (D : Int) := by omega
  have kv := fun w => Rt.rvalid_any (P : Int) (D : Int) w
  rw [hok] at kv
  replace kv := Lib.hid kv
  have kck := fun w h => rcheck_any A m c n es w h (by omega)
  rw [hz] at kck
  have hel := Lib.hid (show es.length ≤ 4096 by rw [h.len]; exact hm)
  have hp40 : 2 ^ n ≤ 1099511627776 := by
    have := Nat.pow_le_pow_right (n := 2) (by omega) hn
    rw [show (2 : Nat) ^ 40 = 1099511627776 by decide +kernel] at this
    exact this
  have hp1 : 0 < 2 ^ n := Nat.two_pow_pos n
  have kcn := Lib.hid (fun x hx w h => rcount_any A m c n es x w h (by omega) hz (by omega) hx)
  have ksz := Lib.hid (fun x hx w => rsize_any x hx w)
  have kst := Lib.hid (fun x hx w => rset_any x hx w)
  replace kck := Lib.hid kck
  clear hz hpq hok
  have hb0 : Below w.heap.size w ((w.alloc (.cells #[.int .i64 n, .slice A m c] 25)).alloc (.cells #[.int .i64 (P : Nat), .int .i64 (D : Nat)] 36)) := ((Below.refl _ w).alloc (Nat.le_refl _) _).alloc (by simp) _
  go_enter Tryd.func51, Tryd.ntmps51
  go_wp2_with fail
  refine (kck.out _ ((h.alloc _).alloc _)).mono ?_
  rintro e w1 ⟨rfl, hb1⟩
  have G1 : Blk w1 w.heap.size 25 #[.int .i64 n, .slice A m c] := Blk.below ((Blk.new w _ _).alloc _) hb1 (by simp; omega)
  have R1 : Blk w1 (w.heap.size + 1) 36 #[.int .i64 (P : Nat), .int .i64 (D : Nat)] := Blk.below (Blk.new' _ _ _ (by simp)) hb1 (by simp)
  have hb01 := hb0.trans (hb1.mono (by simp; omega))
  have hE1 := h.below hb01 (Nat.le_refl _)
  clear hb1 hb0 kck
  have x0 := Blk.cell R1 0
  have x1 := Blk.cell R1 1
  simp at x0 x1
  go_wp2_with (first
    | (go_at_call 43; (with_reducible refine (kv.out _).mono ?_); rintro e w2 ⟨rfl, hb2⟩
       have X2 := R1.below hb2 R1.lt
       clear x0 x1
       have x0 := Blk.cell X2 0
       have x1 := Blk.cell X2 1
       simp at x0 x1)
    | fail)
  have G2 := G1.below hb2 G1.lt
  have R2 := R1.below hb2 R1.lt
  have hE2 := hE1.below hb2 (Nat.le_refl _)
  have hb02 := hb01.trans (hb2.mono hb01.size)
  clear G1 R1 hE1 hb01 hb2 kv x0 x1
  have gl := G2.lt
  have rl := R2.lt
  obtain ⟨g0, g1⟩ := blkG G2
  have y0 := Blk.cell R2 0
  have y1 := Blk.cell R2 1
  simp at y0 y1
  have kS : Hid (∀ w' : World, Below w2.heap.size w2 w' → w'.cell? ⟨w.heap.size, 0, none⟩ = some (.int .i64 n) ∧ w'.cell? ⟨w.heap.size, 1, none⟩ = some (.slice A m c) ∧ w'.cell? ⟨w.heap.size + 1, 0, none⟩ = some (.int .i64 (P : Nat)) ∧ w'.cell? ⟨w.heap.size + 1, 1, none⟩ = some (.int .i64 (D : Nat))) := Lib.hid (fun w' hb => ⟨(hb.cell (p := ⟨w.heap.size, 0, none⟩) gl).trans g0, (hb.cell (p := ⟨w.heap.size, 1, none⟩) gl).trans g1, (hb.cell (p := ⟨w.heap.size + 1, 0, none⟩) rl).trans y0, (hb.cell (p := ⟨w.heap.size + 1, 1, none⟩) rl).trans y1⟩)
  clear G2 R2 g0 g1 y0 y1 X2 nP0 nP1 nD1
  go_loopw [8, 9, 10] (fun b v i wr => ∃ (j : Nat), i = .int .i64 ((j : Int) + 1) ∧ j + 1 ≤ 2 ^ n ∧ b = .int .i64 ((dR es P D j).1 : Nat) ∧ v = .int .i64 (dR es P D j).2 ∧ Below w2.heap.size w2 wr) (fun _ _ i _ => 2 ^ n - (intOf i).toNat)
  case atStart => exact ⟨0, rfl, hp1, rfl, rfl, Below.refl _ _⟩
  case round =>
    obtain ⟨j, rfl, hj, rfl, rfl, hb⟩ := hrel
    have hEr := hE2.below hb (Nat.le_refl _)
    have hnm : min n 64 = n := Nat.min_eq_left (by omega)
    have hw2 : IntKind.i64.wrap ((2 : Int) ^ n) = ((2 ^ n : Nat) : Int) := by
      rw [show (2 : Int) ^ n = ((2 ^ n : Nat) : Int) by rw [Int.natCast_pow]; rfl]
      exact IntWalk.i64_in _ ⟨by omega, by omega⟩
    obtain ⟨d0, d1, d2, d3⟩ := kS.out _ hb
    have hinv := dR_inv es P D j
    have hbl := hinv.1
    have hvl := dV_bd hel.out hlim.1 hlim.2 (dR es P D j).1
    rw [← hinv.2.1] at hvl
    have hb40 : (dR es P D j).1 < 4611686018427387904 := by omega
    by_cases hlt : j + 1 < 2 ^ n
    · have hI : insE es (bset (j + 1)) ≤ 4096 := Nat.le_trans (insE_le _ _) hel.out
      have hK := pop_le (j + 1)
      have hst := Lib.hid (show dR es P D (j + 1) = _ from dR.eq_2 es P D j)
      have hdv : Hid (dV es P D (j + 1) = ((insE es (bset (j + 1)) : Nat) : Int) * (D : Int) - (P : Int) * ((pop (j + 1) : Nat) : Int)) := Lib.hid rfl
      have hdl := dV_bd hel.out hlim.1 hlim.2 (j + 1)
      have kc : ∀ w, RE w A m es → Calls Tryd.prog 56 #[.agg #[.int .i64 n, .slice A m c], .int .i64 ((j : Int) + 1)] w fun e w' => e = .returned (.int .i64 (insE es (bset (j + 1)) : Nat)) ∧ Below w.heap.size w w' := fun w h => kcn.out (j + 1) (by omega) w h
      have ks : ∀ w, Calls Tryd.prog 57 #[.int .i64 ((j : Int) + 1)] w fun e w' => e = .returned (.int .i64 (pop (j + 1) : Nat)) ∧ w' = w := fun w => ksz.out (j + 1) (by omega) w
      have ks2 : ∀ w, Calls Tryd.prog 57 #[.int .i64 ((dR es P D j).1 : Nat)] w fun e w' => e = .returned (.int .i64 (pop (dR es P D j).1 : Nat)) ∧ w' = w := fun w => ksz.out (dR es P D j).1 hb40 w
      have m1 : IntKind.i64.wrap (((insE es (bset (j + 1)) : Nat) : Int) * (D : Int)) = ((insE es (bset (j + 1)) * D : Nat) : Int) := by
        have : insE es (bset (j + 1)) * D ≤ 4096 * 1048576 := Nat.mul_le_mul hI hlim.2
        rw [← Int.natCast_mul]; exact IntWalk.i64_in _ ⟨by omega, by omega⟩
      have m2 : IntKind.i64.wrap ((P : Int) * ((pop (j + 1) : Nat) : Int)) = ((P * pop (j + 1) : Nat) : Int) := by
        have : P * pop (j + 1) ≤ 1048576 * 64 := Nat.mul_le_mul hlim.1 hK
        rw [← Int.natCast_mul]; exact IntWalk.i64_in _ ⟨by omega, by omega⟩
      have m3 : IntKind.i64.wrap (((insE es (bset (j + 1)) * D : Nat) : Int) - ((P * pop (j + 1) : Nat) : Int)) = dV es P D (j + 1) := by
        have : ((insE es (bset (j + 1)) * D : Nat) : Int) - ((P * pop (j + 1) : Nat) : Int) = dV es P D (j + 1) := by rw [hdv.out, Int.natCast_mul, Int.natCast_mul]
        rw [this]; exact IntWalk.i64_in _ ⟨by omega, by omega⟩
      generalize dV es P D (j + 1) = V at *
      generalize insE es (bset (j + 1)) = I at *
      generalize pop (j + 1) = K at *
      generalize dR es P D j = B at *
      obtain ⟨b, v⟩ := B
      simp only at *
      generalize pop b = PB at *
      obtain ⟨Q, hQ⟩ : ∃ Q, Q = 2 ^ n := ⟨_, rfl⟩
      rw [← hQ] at hw2 hlt hj hp40 ⊢
      generalize I * D = X at *
      generalize P * K = Y at *
      have i0 : (j : Int) + 1 < (Q : Int) := by omega
      have hcase : (v < V ∧ Hid (dR es P D (j + 1) = (j + 1, V))) ∨ ((V == v) = true ∧ ¬ v < V ∧ (PB : Int) < (K : Int) ∧ Hid (dR es P D (j + 1) = (j + 1, V))) ∨ ((V == v) = true ∧ decide (v < V) = false ∧ ¬ PB < K ∧ ¬ (PB : Int) < (K : Int) ∧ Hid (dR es P D (j + 1) = (b, v))) ∨ (decide (v < V) = false ∧ (V == v) = false ∧ Hid (dR es P D (j + 1) = (b, v))) := by
        have h := hst.out
        by_cases c1 : v < V
        · exact .inl ⟨c1, Lib.hid (by rw [h, if_pos (.inl c1)])⟩
        · by_cases c2 : V = v
          · by_cases c3 : PB < K
            · exact .inr (.inl ⟨by rw [beq_iff_eq]; exact c2, c1, by omega, Lib.hid (by rw [h, if_pos (.inr ⟨c2, c3⟩)])⟩)
            · exact .inr (.inr (.inl ⟨by rw [beq_iff_eq]; exact c2, decide_eq_false c1, c3, by omega, Lib.hid (by rw [h, if_neg (by rintro (h | h); exact c1 h; exact c3 h.2)])⟩))
          · exact .inr (.inr (.inr ⟨decide_eq_false c1, by rw [beq_eq_false_iff_ne]; omega, Lib.hid (by rw [h, if_neg (by rintro (h | h); exact c1 h; exact c2 h.1)])⟩))
      replace hQ := Lib.hid hQ
      replace kc := Lib.hid kc
      replace ks := Lib.hid ks
      replace ks2 := Lib.hid ks2
      replace hinv := Lib.hid (And.intro True.intro True.intro)
      have BN : Below w2.heap.size w2 wr.drew := hb.drew
      clear hst hel kcn ksz kst hdv hbl
      go_upto_region 12 with fail
      clear d0 d1 d2 d3
      go_region_held3 (fun w' => w'.cell? ⟨w.heap.size, 0, none⟩ = some (.int .i64 n) ∧ w'.cell? ⟨w.heap.size, 1, none⟩ = some (.slice A m c) ∧ w'.cell? ⟨w.heap.size + 1, 0, none⟩ = some (.int .i64 (P : Nat)) ∧ w'.cell? ⟨w.heap.size + 1, 1, none⟩ = some (.int .i64 (D : Nat)))
        ((first | (with_reducible exact kS.out _ BN) | fail))
        ((first
          | (go_at_call 56; (with_reducible refine (kc.out _ (hE2.below BN (Nat.le_refl _))).mono ?_); rintro e w3 ⟨rfl, hb3⟩
             replace BN := BN.trans (hb3.mono BN.size))
          | (go_at_call 57; (with_reducible refine (ks.out _).mono ?_); rintro e w4 ⟨rfl, hw⟩; subst hw)
          | fail))
      rcases hcase with ⟨c1, hn⟩ | ⟨c1, c2, c3, hn⟩ | ⟨c1, c2, c3, c4, hn⟩ | ⟨c1, c2, hn⟩
      all_goals
        clear hQ m1 m2 m3 hI hK hdl hvl hinv hw2 hnm hlim kc hEr hb40
        go_wp2_with (first
          | (go_at_call 57; (with_reducible refine (ks.out _).mono ?_); rintro e w5 ⟨rfl, hw⟩; subst hw)
          | (go_at_call 57; (with_reducible refine (ks2.out _).mono ?_); rintro e w5 ⟨rfl, hw⟩; subst hw)
          | fail)
        go_roundw
        case rel => exact ⟨j + 1, by go_num, by omega, by first | (rw [hn.out]; done) | (rw [hn.out]; rfl), by first | (rw [hn.out]; done) | (rw [hn.out]; rfl), BN⟩
        case measure => simp [intOf]; omega
    · have hend : j = 2 ^ n - 1 := by omega
      have hbe : dR es P D (2 ^ n - 1) = dR es P D j := by rw [hend]
      replace hbe := Lib.hid hbe
      have hlt' : ¬ (j : Int) + 1 < ((2 ^ n : Nat) : Int) := by omega
      generalize dR es P D j = B at *
      obtain ⟨b, v⟩ := B
      simp only at *
      have kse := Lib.hid (kst.out b hb40 wr)
      have hb0r := hb02.trans (hb.mono hb02.size)
      replace hinv := Lib.hid (And.intro True.intro True.intro)
      clear hend hb40 kcn ksz kst hel hlt hj hp40 hbl d2 d3
      go_wp2_with (first
        | (go_at_call 58; (with_reducible refine kse.out.mono ?_); intro e w3 hq; unfold RetI at hq; obtain ⟨A2, n2, c2, rfl, hc2, hr2, hb2, hf2⟩ := hq)
        | fail)
      refine bodyPost_ret (v := .tuple #[.slice A2 n2 c2, .bool (decide (0 < v)), .int .i64 0]) (by simp [results, Tryd.results51, go_sem]) rfl ?_
      rw [hbe.out]
      exact ⟨A2, n2, c2, rfl, hc2, hr2, hb0r.trans (hb2.mono hb0r.size)⟩
end Go.Proofs.YticekkjambkifaaDoor.Fl
