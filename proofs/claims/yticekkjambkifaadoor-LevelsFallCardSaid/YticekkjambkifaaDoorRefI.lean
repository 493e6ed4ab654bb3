/- The reference's Cmp. -/
import Derived.Test.YticekkjambkifaaDoorRefF
import Derived.Test.YticekkjambkifaaDoorZrt
import Derived.Lib.AtoiErrMem
set_option linter.unusedVariables false
set_option linter.unusedSimpArgs false
namespace Go.Proofs.YticekkjambkifaaDoor.Rt
open Go.RowKit CoRat

theorem pairW {a b c d : Int} (h : a = c) (h' : b = d) : (#[Value.int .u64 a, Value.int .u64 b] : Array Value) = #[.int .u64 c, .int .u64 d] := by rw [h, h']
set_option maxHeartbeats 1000000 in
theorem rmul_eq (a b : Nat) (w : World) (ha : a < 18446744073709551616) (hb : b < 18446744073709551616) :
    Calls Tryd.prog 65 #[.int .u64 a, .int .u64 b] w fun e w' => e = .returned (.agg #[.int .u64 (hi (a * b)), .int .u64 (lo (a * b))]) ∧ w' = w.alloc (.cells #[.int .u64 (hi (a * b)), .int .u64 (lo (a * b))] 100) := by
  obtain ⟨P, S, T, M, q, r, _, F⟩ := facts a b ha hb
  have la := u64_low a ha
  have lb := u64_low b hb
  have da := div_nat a
  have db := div_nat b
  generalize ((a / 4294967296 : Nat) : Int) = A1 at *
  generalize ((b / 4294967296 : Nat) : Int) = B1 at *
  generalize ((a % 4294967296 : Nat) : Int) = A0 at *
  generalize ((b % 4294967296 : Nat) : Int) = B0 at *
  have F := Lib.hid F
  replace la := Lib.hid la
  replace lb := Lib.hid lb
  replace da := Lib.hid da
  replace db := Lib.hid db
  go_enter Tryd.func65, Tryd.ntmps65
  go_wp2_with fail
  go_returns
  refine ⟨retW ?_ ?_, congrArg (fun c => w.alloc (.cells c 100)) (pairW ?_ ?_)⟩
  · rw [la.out, lb.out, da.out, db.out, F.out.p, F.out.s, F.out.t, F.out.m, F.out.q0, F.out.r0, F.out.h1, F.out.h2]
  · rw [la.out, lb.out, da.out, db.out, F.out.p, F.out.s, F.out.t, F.out.q0, F.out.r0, F.out.l1, F.out.l2, F.out.l3]
  · rw [la.out, lb.out, da.out, db.out, F.out.p, F.out.s, F.out.t, F.out.m, F.out.q0, F.out.r0, F.out.h1, F.out.h2]
  · rw [la.out, lb.out, da.out, db.out, F.out.p, F.out.s, F.out.t, F.out.q0, F.out.r0, F.out.l1, F.out.l2, F.out.l3]
theorem blk_drw {w : World} {g : Nat} {t : TypeId} {cs : Array Value} (h : Blk w g t cs) : Blk w.drew g t cs := h
theorem cellA' {w : World} {p : Addr} {v : Value} (h : w.cell? p = some v) (o : Obj) : (w.alloc o).cell? p = some v := by
  rw [World.cell?_alloc_lt w o p (Lib.lt_of_cell h)]; exact h
set_option maxRecDepth 100000 in
set_option maxHeartbeats 40000000 in
theorem rCmp_any (a b c d : Int) (w : World) :
    Calls Tryd.prog 21 #[.agg #[.int .i64 a, .int .i64 b], .agg #[.int .i64 c, .int .i64 d]] w fun e w' => e = .returned (.int .i64 (cmpF a b c d)) ∧ Below w.heap.size w w' := by
  have okx := fun w => rvalid_any a b w
  have oky := fun w => rvalid_any c d w
  cases hx : okF a b
  · have e1 : Hid (cmpF a b c d = 0) := Lib.hid (by unfold cmpF; rw [hx]; rfl)
    rw [hx] at okx
    replace okx := Lib.hid okx
    clear hx oky
    go_enter Tryd.func21, Tryd.ntmps21
    go_wp2_with fail
    refine (okx.out _).mono ?_; rintro e w1 ⟨rfl, hb1⟩
    go_wp2_with fail
    go_ret
    exact ⟨retInt e1.out.symm, (by go_grown : Below w.heap.size w _).trans (hb1.mono (by simp; omega))⟩
  · rw [hx] at okx
    replace okx := Lib.hid okx
    cases hy : okF c d
    · have e1 : Hid (cmpF a b c d = 0) := Lib.hid (by unfold cmpF; rw [hx, hy]; rfl)
      rw [hy] at oky
      replace oky := Lib.hid oky
      clear hx hy
      go_enter Tryd.func21, Tryd.ntmps21
      go_wp2_with fail
      refine (okx.out _).mono ?_; rintro e w1 ⟨rfl, hb1⟩; obtain ⟨hc1, hf1⟩ := bat hb1 (w.heap.size + 2) (by simp)
      go_wp2_with fail
      refine (oky.out _).mono ?_; rintro e w2 ⟨rfl, hb2⟩
      have s1 : w.heap.size + 2 ≤ w1.heap.size := by have := hb1.size; simp at this; omega
      go_wp2_with fail
      go_ret
      exact ⟨retInt e1.out.symm, ((by go_grown : Below w.heap.size w _).trans (hb1.mono (by simp; omega))).trans (hb2.mono (by omega))⟩
    · rw [hy] at oky
      replace oky := Lib.hid oky
      have bx := okF_bd hx
      have bz := okF_bd hy
      obtain ⟨E, rfl⟩ := Int.eq_ofNat_of_zero_le (show 0 ≤ b by omega)
      obtain ⟨D, rfl⟩ := Int.eq_ofNat_of_zero_le (show 0 ≤ d by omega)
      have hcm : cmpF a E c D = (a * (D : Int) - c * (E : Int)).sign := by unfold cmpF; rw [hx, hy]; rfl
      rw [hcm]
      have E1 : (1 : Int) ≤ E := by omega
      have E2 : (E : Int) ≤ 1152921504606846976 := by omega
      have D1 : (1 : Int) ≤ D := by omega
      have D2 : (D : Int) ≤ 1152921504606846976 := by omega
      have wE : IntKind.u64.wrap (E : Int) = (E : Int) := wrap_nat E (by omega)
      have wD : IntKind.u64.wrap (D : Int) = (D : Int) := wrap_nat D (by omega)
      have sa := Lib.hid fun w => rsize_any a w (by omega) (by omega)
      have sc := Lib.hid fun w => rsize_any c w (by omega) (by omega)
      have ma := Lib.hid fun w => rmul_eq a.natAbs D w (by omega) (by omega)
      have mc := Lib.hid fun w => rmul_eq c.natAbs E w (by omega) (by omega)
      have hU2 := Nat.mul_le_mul (show a.natAbs ≤ 1152921504606846976 by omega) (show D ≤ 1152921504606846976 by omega)
      have hV2 := Nat.mul_le_mul (show c.natAbs ≤ 1152921504606846976 by omega) (show E ≤ 1152921504606846976 by omega)
      have hUa : ((a.natAbs * D : Nat) : Int) = (if a < 0 then - (a * D) else a * D) := by
        rw [Int.natCast_mul]
        by_cases h : a < 0
        · rw [if_pos h, show ((a.natAbs : Nat) : Int) = -a by omega]; grind
        · rw [if_neg h, show ((a.natAbs : Nat) : Int) = a by omega]
      have hVa : ((c.natAbs * E : Nat) : Int) = (if c < 0 then - (c * E) else c * E) := by
        rw [Int.natCast_mul]
        by_cases h : c < 0
        · rw [if_pos h, show ((c.natAbs : Nat) : Int) = -c by omega]; grind
        · rw [if_neg h, show ((c.natAbs : Nat) : Int) = c by omega]
      have hUp : a < 0 → 0 < a.natAbs * D := fun h => Nat.mul_pos (by omega) (by omega)
      have hVp : c < 0 → 0 < c.natAbs * E := fun h => Nat.mul_pos (by omega) (by omega)
      clear bx bz hx hy hcm
      generalize a.natAbs * D = U at *
      generalize c.natAbs * E = V at *
      generalize hna : a.natAbs = na at *
      generalize hnc : c.natAbs = nc at *
      clear hna hnc
      generalize a * (D : Int) = P at *
      generalize c * (E : Int) = Q at *
      have hUB : U < B := by unfold B; omega
      have hVB : V < B := by unfold B; omega
      replace hUa := Lib.hid hUa
      replace hVa := Lib.hid hVa
      replace hUp := Lib.hid hUp
      replace hVp := Lib.hid hVp
      clear hU2 hV2
      go_enter Tryd.func21, Tryd.ntmps21
      go_wp2_with fail
      refine (okx.out _).mono ?_; rintro e w1 ⟨rfl, hb1⟩; obtain ⟨hc1, hf1⟩ := bat hb1 (w.heap.size + 2) (by simp)
      have s1 : w.heap.size + 2 ≤ w1.heap.size := by have := hb1.size; simp at this; omega
      go_wp2_with fail
      refine (oky.out _).mono ?_; rintro e w2 ⟨rfl, hb2⟩; obtain ⟨hc2, hf2⟩ := bat hb2 (w.heap.size + 2) s1
      have s2 : w.heap.size + 2 ≤ w2.heap.size := by have := hb2.size; omega
      have x0 : w2.cell? ⟨w.heap.size, 0, none⟩ = some (.int .i64 a) := by rw [hc2 _ _ (by omega), hc1 _ _ (by omega)]; go_simp
      have x1 : w2.cell? ⟨w.heap.size, 1, none⟩ = some (.int .i64 E) := by rw [hc2 _ _ (by omega), hc1 _ _ (by omega)]; go_simp
      have y0 : w2.cell? ⟨w.heap.size + 1, 0, none⟩ = some (.int .i64 c) := by rw [hc2 _ _ (by omega), hc1 _ _ (by omega)]; go_simp
      have y1 : w2.cell? ⟨w.heap.size + 1, 1, none⟩ = some (.int .i64 D) := by rw [hc2 _ _ (by omega), hc1 _ _ (by omega)]; go_simp
      have b2 : Below w.heap.size w w2 := ((by go_grown : Below w.heap.size w _).trans (hb1.mono (by simp; omega))).trans (hb2.mono (by omega))
      clear hc1 hf1 hc2 hf2 hb1 hb2 okx oky s1
      by_cases hac : decide (a < 0) = decide (c < 0)
      · obtain ⟨s, qa⟩ : ∃ s, decide (a < 0) = s := ⟨_, rfl⟩
        have qc : decide (c < 0) = s := by rw [← hac]; exact qa
        have hP : P = if s then -(U : Int) else U := by
          have h1 := hUa.out
          subst qa
          by_cases h : a < 0
          · rw [if_pos h] at h1; simp [h]; omega
          · rw [if_neg h] at h1; simp [h]; omega
        have hQ : Q = if s then -(V : Int) else V := by
          have h1 := hVa.out
          subst qc
          by_cases h : c < 0
          · rw [if_pos h] at h1; simp [h]; omega
          · rw [if_neg h] at h1; simp [h]; omega
        replace hP := Lib.hid hP
        replace hQ := Lib.hid hQ
        clear hac hUa hVa hUp hVp
        go_upto_region 7 with fail
        go_cut [5, 6] (fun p5 p6 wx => ∃ ga gb : Nat, p5 = .pointer (some ⟨ga, 0, none⟩) ∧ p6 = .pointer (some ⟨gb, 0, none⟩) ∧ ga ≠ gb ∧ w2.heap.size ≤ ga ∧ w2.heap.size ≤ gb ∧ Blk wx ga 100 #[.int .u64 (hi U), .int .u64 (lo U)] ∧ Blk wx gb 100 #[.int .u64 (hi V), .int .u64 (lo V)] ∧ Below w2.heap.size w2 wx)
        case first =>
          go_region_held3 (fun w' => w'.cell? ⟨w.heap.size, 0, none⟩ = some (.int .i64 a) ∧ w'.cell? ⟨w.heap.size, 1, none⟩ = some (.int .i64 E) ∧ w'.cell? ⟨w.heap.size + 1, 0, none⟩ = some (.int .i64 c) ∧ w'.cell? ⟨w.heap.size + 1, 1, none⟩ = some (.int .i64 D))
            ((refine ⟨?_, ?_, ?_, ?_⟩ <;> ((repeat (refine cellA' ?_ _)) <;> first | exact x0 | exact x1 | exact y0 | exact y1)))
            (first | (go_at_call 66; (with_reducible refine (sa.out _).mono ?_); rintro e w9 ⟨rfl, rfl⟩) | (go_at_call 66; (with_reducible refine (sc.out _).mono ?_); rintro e w9 ⟨rfl, rfl⟩) | (go_at_call 65; (with_reducible refine (ma.out _).mono ?_); rintro e w3 ⟨rfl, rfl⟩) | (go_at_call 65; (with_reducible refine (mc.out _).mono ?_); rintro e w3 ⟨rfl, rfl⟩))
          all_goals go_wp2_with fail
          all_goals go_meet
          all_goals
            refine ⟨_, _, rfl, rfl, by omega, by omega, by omega, ?_, ?_, by go_grown⟩
            all_goals
              refine blk_drw ?_
              repeat (first | (refine Blk.new' _ _ _ ?_; (simp; done)) | refine Blk.alloc ?_ _)
        case rest =>
          obtain ⟨ga, gb, rfl, rfl, hne, hga, hgb, hBa, hBb, hbx⟩ := hcut
          have hbw := b2.trans (hbx.mono (by omega))
          have z0 := (hbx.cell (p := ⟨w.heap.size, 0, none⟩) (by simp; omega)).trans x0
          have ca0 := Blk.cell hBa 0
          have ca1 := Blk.cell hBa 1
          have cb0 := Blk.cell hBb 0
          have cb1 := Blk.cell hBb 1
          have fa0 := Blk.frozen hBa 0
          have fa1 := Blk.frozen hBa 1
          have fb0 := Blk.frozen hBb 0
          have fb1 := Blk.frozen hBb 1
          simp at ca0 ca1 cb0 cb1
          clear x0 x1 y0 y1 sa sc ma mc hbx
          cases s
          · clear fa0 fa1 fb0 fb1
            rcases Nat.lt_trichotomy U V with h | h | h
            · have kl := fun w => rless_any _ _ _ _ U V w (W.mk U) hUB (W.mk V) hVB
              rw [decide_eq_true h] at kl
              replace kl := Lib.hid kl
              have hs : (P - Q).sign = -1 := by rw [hP.out, hQ.out]; exact Int.sign_eq_neg_one_of_neg (by simp; omega)
              replace hs := Lib.hid hs
              clear h
              go_wp2_with fail
              refine (kl.out _).mono ?_; rintro e w5 ⟨rfl, hb5⟩
              have hb6 := hbw.trans (hb5.mono hbw.size)
              go_wp2_with fail
              go_ret
              exact ⟨retInt hs.out.symm, hb6⟩
            · have kl := fun w => rless_any _ _ _ _ U V w (W.mk U) hUB (W.mk V) hVB
              rw [decide_eq_false (show ¬ U < V by omega)] at kl
              have hs : (P - Q).sign = 0 := by rw [hP.out, hQ.out, h]; simp
              replace hs := Lib.hid hs
              have qe : (hi U == hi V) = true := by rw [h]; simp
              have qf : (lo U == lo V) = true := by rw [h]; simp
              replace kl := Lib.hid kl
              clear h
              go_wp2_with fail
              refine (kl.out _).mono ?_; rintro e w5 ⟨rfl, hb5⟩
              have hb6 := hbw.trans (hb5.mono hbw.size)
              have hBa5 := Blk.below hBa hb5 (Blk.lt hBa)
              have hBb5 := Blk.below hBb hb5 (Blk.lt hBb)
              clear ca0 ca1 cb0 cb1
              have ca0 := Blk.cell hBa5 0
              have ca1 := Blk.cell hBa5 1
              have cb0 := Blk.cell hBb5 0
              have cb1 := Blk.cell hBb5 1
              simp at ca0 ca1 cb0 cb1
              go_wp2_with fail
              go_ret
              exact ⟨retInt hs.out.symm, hb6⟩
            · have kl := fun w => rless_any _ _ _ _ U V w (W.mk U) hUB (W.mk V) hVB
              rw [decide_eq_false (show ¬ U < V by omega)] at kl
              have hs : (P - Q).sign = 1 := by rw [hP.out, hQ.out]; exact Int.sign_eq_one_of_pos (by simp; omega)
              replace hs := Lib.hid hs
              have qe : (hi U == hi V) = false ∨ ((hi U == hi V) = true ∧ (lo U == lo V) = false) := by
                by_cases e1 : hi U = hi V
                · refine .inr ⟨by simp [e1], ?_⟩
                  rw [beq_eq_false_iff_ne]
                  intro e2
                  have := W.inj (W.mk U) (show W (hi U) (lo U) V by rw [e1, e2]; exact W.mk V)
                  omega
                · exact .inl (by rw [beq_eq_false_iff_ne]; exact e1)
              replace kl := Lib.hid kl
              clear h
              go_wp2_with fail
              refine (kl.out _).mono ?_; rintro e w5 ⟨rfl, hb5⟩
              have hb6 := hbw.trans (hb5.mono hbw.size)
              have hBa5 := Blk.below hBa hb5 (Blk.lt hBa)
              have hBb5 := Blk.below hBb hb5 (Blk.lt hBb)
              clear ca0 ca1 cb0 cb1
              have ca0 := Blk.cell hBa5 0
              have ca1 := Blk.cell hBa5 1
              have cb0 := Blk.cell hBb5 0
              have cb1 := Blk.cell hBb5 1
              simp at ca0 ca1 cb0 cb1
              rcases qe with qe | ⟨qe, qf⟩
              all_goals
                go_wp2_with fail
                go_ret
                exact ⟨retInt hs.out.symm, hb6⟩
          · go_upto_region 10 with fail
            have hBa2 := Blk.far (Blk.far (Blk.set (Blk.set hBa 0 (.int .u64 (hi V))) 1 (.int .u64 (lo V))) (p := ⟨gb, 0, none⟩) hne (.int .u64 (hi U))) (p := ⟨gb, 1, none⟩) hne (.int .u64 (lo U))
            have hBb2 := Blk.set (Blk.set (Blk.far (Blk.far hBb (p := ⟨ga, 0, none⟩) (Ne.symm hne) (.int .u64 (hi V))) (p := ⟨ga, 1, none⟩) (Ne.symm hne) (.int .u64 (lo V))) 0 (.int .u64 (hi U))) 1 (.int .u64 (lo U))
            simp at hBa2 hBb2
            have hbw2 := (((hbw.setCell (p := ⟨ga, 0, none⟩) (by simp; omega) (.int .u64 (hi V))).setCell (p := ⟨ga, 1, none⟩) (by simp; omega) (.int .u64 (lo V))).setCell (p := ⟨gb, 0, none⟩) (by simp; omega) (.int .u64 (hi U))).setCell (p := ⟨gb, 1, none⟩) (by simp; omega) (.int .u64 (lo U))
            generalize World.setCell _ ⟨gb, 1, none⟩ (.int .u64 (lo U)) = wy at *
            clear hBa hBb hbw fa0 fa1 fb0 fb1 z0 ca0 ca1 cb0 cb1
            have hBa := hBa2
            have hBb := hBb2
            have ca0 := Blk.cell hBa 0
            have ca1 := Blk.cell hBa 1
            have cb0 := Blk.cell hBb 0
            have cb1 := Blk.cell hBb 1
            simp at ca0 ca1 cb0 cb1
            clear hBa2 hBb2
            rcases Nat.lt_trichotomy V U with h | h | h
            · have kl := fun w => rless_any _ _ _ _ V U w (W.mk V) hVB (W.mk U) hUB
              rw [decide_eq_true h] at kl
              replace kl := Lib.hid kl
              have hs : (P - Q).sign = -1 := by rw [hP.out, hQ.out]; exact Int.sign_eq_neg_one_of_neg (by simp; omega)
              replace hs := Lib.hid hs
              clear h
              go_wp2_with fail
              refine (kl.out _).mono ?_; rintro e w5 ⟨rfl, hb5⟩
              have hb6 := hbw2.trans (hb5.mono hbw2.size)
              go_wp2_with fail
              go_ret
              exact ⟨retInt hs.out.symm, hb6⟩
            · have kl := fun w => rless_any _ _ _ _ V U w (W.mk V) hVB (W.mk U) hUB
              rw [decide_eq_false (show ¬ V < U by omega)] at kl
              have hs : (P - Q).sign = 0 := by rw [hP.out, hQ.out, h]; simp
              replace hs := Lib.hid hs
              have qe : (hi V == hi U) = true := by rw [h]; simp
              have qf : (lo V == lo U) = true := by rw [h]; simp
              replace kl := Lib.hid kl
              clear h
              go_wp2_with fail
              refine (kl.out _).mono ?_; rintro e w5 ⟨rfl, hb5⟩
              have hb6 := hbw2.trans (hb5.mono hbw2.size)
              have hBa5 := Blk.below hBa hb5 (Blk.lt hBa)
              have hBb5 := Blk.below hBb hb5 (Blk.lt hBb)
              clear ca0 ca1 cb0 cb1
              have ca0 := Blk.cell hBa5 0
              have ca1 := Blk.cell hBa5 1
              have cb0 := Blk.cell hBb5 0
              have cb1 := Blk.cell hBb5 1
              simp at ca0 ca1 cb0 cb1
              go_wp2_with fail
              go_ret
              exact ⟨retInt hs.out.symm, hb6⟩
            · have kl := fun w => rless_any _ _ _ _ V U w (W.mk V) hVB (W.mk U) hUB
              rw [decide_eq_false (show ¬ V < U by omega)] at kl
              have hs : (P - Q).sign = 1 := by rw [hP.out, hQ.out]; exact Int.sign_eq_one_of_pos (by simp; omega)
              replace hs := Lib.hid hs
              have qe : (hi V == hi U) = false ∨ ((hi V == hi U) = true ∧ (lo V == lo U) = false) := by
                by_cases e1 : hi V = hi U
                · refine .inr ⟨by simp [e1], ?_⟩
                  rw [beq_eq_false_iff_ne]
                  intro e2
                  have := W.inj (W.mk V) (show W (hi V) (lo V) U by rw [e1, e2]; exact W.mk U)
                  omega
                · exact .inl (by rw [beq_eq_false_iff_ne]; exact e1)
              replace kl := Lib.hid kl
              clear h
              go_wp2_with fail
              refine (kl.out _).mono ?_; rintro e w5 ⟨rfl, hb5⟩
              have hb6 := hbw2.trans (hb5.mono hbw2.size)
              have hBa5 := Blk.below hBa hb5 (Blk.lt hBa)
              have hBb5 := Blk.below hBb hb5 (Blk.lt hBb)
              clear ca0 ca1 cb0 cb1
              have ca0 := Blk.cell hBa5 0
              have ca1 := Blk.cell hBa5 1
              have cb0 := Blk.cell hBb5 0
              have cb1 := Blk.cell hBb5 1
              simp at ca0 ca1 cb0 cb1
              rcases qe with qe | ⟨qe, qf⟩
              all_goals
                go_wp2_with fail
                go_ret
                exact ⟨retInt hs.out.symm, hb6⟩
      · by_cases ha : a < 0
        · have hc : ¬ c < 0 := fun h => hac (by simp [ha, h])
          have qa : decide (a < 0) = true := by simpa using ha
          have qc : decide (c < 0) = false := by simpa using hc
          have hs : (P - Q).sign = -1 := by
            have h1 := hUa.out; have h2 := hVa.out; have h3 := hUp.out ha
            rw [if_pos ha] at h1; rw [if_neg hc] at h2
            exact Int.sign_eq_neg_one_of_neg (by omega)
          replace hs := Lib.hid hs
          clear ha hc hac
          go_wp2_with fail
          go_ret
          exact ⟨retInt hs.out.symm, b2⟩
        · have hc : c < 0 := by
            rcases Int.lt_or_le c 0 with h | h
            · exact h
            · exact absurd (by simp [ha]; omega) hac
          have qa : decide (a < 0) = false := by simpa using ha
          have qc : decide (c < 0) = true := by simpa using hc
          have hs : (P - Q).sign = 1 := by
            have h1 := hUa.out; have h2 := hVa.out; have h3 := hVp.out hc
            rw [if_neg ha] at h1; rw [if_pos hc] at h2
            exact Int.sign_eq_one_of_pos (by omega)
          replace hs := Lib.hid hs
          clear ha hc hac
          go_wp2_with fail
          go_ret
          exact ⟨retInt hs.out.symm, b2⟩
end Go.Proofs.YticekkjambkifaaDoor.Rt
