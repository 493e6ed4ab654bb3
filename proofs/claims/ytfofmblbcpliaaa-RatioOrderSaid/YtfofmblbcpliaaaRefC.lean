/- The reference's gcd, reduce, Make and Valid. -/
import Derived.Test.YtfofmblbcpliaaaRefB
set_option linter.unusedVariables false
namespace Go.Proofs.Ytfofmblbcpliaaa
open Go.RowKit CoRat

set_option maxHeartbeats 1000000 in
theorem rgcd_any (h l h' l' : Int) (u v : Nat) (w : World) (x : W h l u) (hu : u < B) (y : W h' l' v) (hv : v * 2 < B) :
    Calls Try.prog 35 #[.agg #[.int .u64 h, .int .u64 l], .agg #[.int .u64 h', .int .u64 l']] w fun e w' => e = .returned (.agg #[.int .u64 (hi (Nat.gcd u v)), .int .u64 (lo (Nat.gcd u v))]) ∧ Below w.heap.size w w' := by
  obtain ⟨rfl, rfl⟩ := x
  obtain ⟨rfl, rfl⟩ := y
  go_enter Try.func35, Try.ntmps35
  go_wp2_with fail
  go_loopg [] v (fun g wr => ∃ u' v' : Nat, C2 wr w.heap.size u' ∧ C2 wr (w.heap.size + 1) v' ∧ C2 wr (w.heap.size + 1 + 1) 0 ∧ Below w.heap.size w wr ∧ u' < B ∧ v' * 2 < B ∧ v' ≤ g ∧ Nat.gcd u v = Nat.gcd u' v')
  case atStart => exact ⟨u, v, ((Blk.new w _ _).alloc _).alloc _, (Blk.new' (w.alloc _) _ _ (by simp)).alloc _, Blk.new' ((w.alloc _).alloc _) _ _ (by simp), by go_grown, hu, hv, by omega, rfl⟩
  case round =>
    obtain ⟨u', v', c1, c2, c3, hb, hu', hv', hg', hh⟩ := hrel
    replace hh := Lib.hid hh
    obtain ⟨e0, e1, e2, e3⟩ := C2.cells c1
    obtain ⟨f0, f1, f2, f3⟩ := C2.cells c2
    obtain ⟨g0, g1, g2, g3⟩ := C2.cells c3
    by_cases hz : v' = 0
    · subst hz
      have hl : lo 0 = 0 := rfl
      have hl2 : hi 0 = 0 := rfl
      go_wp2_with fail
      refine bodyPost_ret (v := .agg #[.int .u64 (CoRat.hi u'), .int .u64 (CoRat.lo u')]) (by simp [results, Try.results35, go_sem, g0, g1]) rfl ?_
      exact ⟨retW (by rw [hh.out, Nat.gcd_zero_right]) (by rw [hh.out, Nat.gcd_zero_right]), two_below hb (by omega) _ _⟩
    · by_cases hz2 : hi v' = 0
      case' pos =>
        have hz3 : (hi v' == 0) = true := by simpa using hz2
        have hz4 : (lo v' == 0) = false := by
          have : lo v' ≠ 0 := by intro hl; unfold CoRat.hi at hz2; unfold lo at hl; omega
          simpa using this
      case' neg => have hz3 : (hi v' == 0) = false := by simpa using hz2
      all_goals
        have hvp : 0 < v' := by omega
        clear hz hz2
        go_wp2_with fail
        refine (rdivide_any _ _ _ _ u' v' _ (W.mk u') hu' (W.mk v') hv' hvp).mono ?_; rintro e w2 ⟨rfl, hb2⟩
        have hs := Blk.lt c3
        have d1 := Blk.below c1 hb2 (by omega)
        have d2 := Blk.below c2 hb2 (by omega)
        have d3 := Blk.below c3 hb2 (by omega)
        have hb3 := hb.trans (hb2.mono (by omega))
        have z1 : w.heap.size < w2.heap.size := by have := hb2.size; omega
        have z2 : w.heap.size + 1 < w2.heap.size := by have := hb2.size; omega
        clear c1 c2 c3 e0 e1 e2 e3 f0 f1 f2 f3 g0 g1 g2 g3 hb hb2
        obtain ⟨e0, e1, e2, e3⟩ := C2.cells d1
        obtain ⟨f0, f1, f2, f3⟩ := C2.cells d2
        go_wp2_with fail
        go_region
        all_goals go_wp2_with fail
        have hm := Nat.mod_lt u' hvp
        have hB : v' < B := by omega
        all_goals go_roundg (u' % v')
        all_goals first | (omega; done) | skip
        have D1 := C2.far (C2.put d1 v') (show w.heap.size ≠ w.heap.size + 1 by omega) (.int .u64 (hi (u' % v'))) (.int .u64 (lo (u' % v')))
        have D2 := C2.put (C2.far d2 (show w.heap.size + 1 ≠ w.heap.size by omega) (.int .u64 (hi v')) (.int .u64 (lo v'))) (u' % v')
        have D3 := C2.far (C2.far d3 (show w.heap.size + 1 + 1 ≠ w.heap.size by omega) (.int .u64 (hi v')) (.int .u64 (lo v'))) (show w.heap.size + 1 + 1 ≠ w.heap.size + 1 by omega) (.int .u64 (hi (u' % v'))) (.int .u64 (lo (u' % v')))
        have D4 := two_below (two_below hb3 (show w.heap.size ≤ w.heap.size by omega) (.int .u64 (hi v')) (.int .u64 (lo v'))) (show w.heap.size ≤ w.heap.size + 1 by omega) (.int .u64 (hi (u' % v'))) (.int .u64 (lo (u' % v')))
        have hgc : Nat.gcd u v = Nat.gcd v' (u' % v') := by rw [hh.out, Nat.gcd_comm u' v', Nat.gcd_rec v' u', Nat.gcd_comm]
        have hB2 : u' % v' * 2 < B := by omega
        have hsz : w.heap.size ≤ w2.heap.size := by omega
        all_goals exact ⟨v', u' % v', ((Blk.alloc D1 _).alloc _).drew, ((Blk.alloc D2 _).alloc _).drew, ((Blk.alloc D3 _).alloc _).drew, ((D4.alloc (by simpa using hsz) _).alloc (by simp; omega) _).drew, hB, hB2, by omega, hgc⟩

theorem retF' {a b c a' b' c' : Int} (h : a = a') (h2 : b = b') (h3 : c = c') : Ending.returned (.tuple #[.agg #[.int .i64 a, .int .i64 b], .int .i64 c]) = .returned (.tuple #[.agg #[.int .i64 a', .int .i64 b'], .int .i64 c']) := by rw [h, h2, h3]
theorem redN_z (s : Bool) (v : Nat) (v0 : 0 < v) : redN s 0 v = 0 ∧ redD 0 v = 1 ∧ redE 0 v = 0 := by
  have : fits 0 v = true := by
    unfold fits M
    rw [Nat.gcd_zero_left, Nat.div_self v0]
    simp
  unfold redN redD redE
  rw [this, Nat.gcd_zero_left, Nat.div_self v0]
  cases s <;> simp
theorem hi_small {z : Nat} (h : z < 18446744073709551616) : hi z = 0 ∧ lo z = (z : Int) := by unfold CoRat.hi lo; omega
set_option maxHeartbeats 2000000 in
theorem reduce_any (s : Bool) (h l h' l' : Int) (u v : Nat) (w : World) (x : W h l u) (hu : u < B) (y : W h' l' v) (hv : v * 2 < B) (v0 : 0 < v) :
    Calls Try.prog 32 #[.bool s, .agg #[.int .u64 h, .int .u64 l], .agg #[.int .u64 h', .int .u64 l']] w fun e w' => e = .returned (.tuple #[.agg #[.int .i64 (redN s u v), .int .i64 (redD u v)], .int .i64 (redE u v)]) ∧ Below w.heap.size w w' := by
  obtain ⟨rfl, rfl⟩ := x
  obtain ⟨rfl, rfl⟩ := y
  by_cases hz : u = 0
  · subst hz
    have hl : lo 0 = 0 := rfl
    have hl2 : hi 0 = 0 := rfl
    obtain ⟨r1, r2, r3⟩ := redN_z s v v0
    replace r1 := Lib.hid r1
    replace r2 := Lib.hid r2
    replace r3 := Lib.hid r3
    go_enter Try.func32, Try.ntmps32
    go_wp2_with fail
    go_returns
    exact ⟨by rw [r1.out, r2.out, r3.out], by go_grown⟩
  · obtain ⟨g, hg⟩ : ∃ g, Nat.gcd u v = g := ⟨_, rfl⟩
    have hg0 : 0 < g := hg ▸ Nat.gcd_pos_of_pos_right u v0
    have hg1 : g ≤ v := hg ▸ Nat.le_of_dvd v0 (Nat.gcd_dvd_right u v)
    obtain ⟨p, hp⟩ : ∃ p, u / g = p := ⟨_, rfl⟩
    obtain ⟨q, hq⟩ : ∃ q, v / g = q := ⟨_, rfl⟩
    have nf : Hid (¬ (p ≤ 1152921504606846976 ∧ q ≤ 1152921504606846976) → redN s u v = 0 ∧ redD u v = 0 ∧ redE u v = 3) := Lib.hid (by
      intro hh
      have : fits u v = false := by
        unfold fits M
        rw [hg, hp, hq, decide_eq_false_iff_not]; exact hh
      unfold redN redD redE
      rw [this]
      exact ⟨rfl, rfl, rfl⟩)
    have yf : Hid ((p ≤ 1152921504606846976 ∧ q ≤ 1152921504606846976) → redN s u v = sg s p ∧ redD u v = q ∧ redE u v = 0) := Lib.hid (by
      intro hh
      have : fits u v = true := by
        unfold fits M
        rw [hg, hp, hq, decide_eq_true_iff]; exact hh
      unfold redN redD redE
      rw [this, hg, hp, hq]
      cases s <;> exact ⟨rfl, rfl, rfl⟩)
    have dvA := fun w => rdivide_any (hi u) (lo u) (hi g) (lo g) u g w (W.mk u) hu (W.mk g) (by omega) hg0
    have dvC := fun w => rdivide_any (hi v) (lo v) (hi g) (lo g) v g w (W.mk v) (by omega) (W.mk g) (by omega) hg0
    rw [hp] at dvA
    rw [hq] at dvC
    have hpB : p < B := by rw [← hp]; exact Nat.lt_of_le_of_lt (Nat.div_le_self _ _) hu
    have hqB : q < B := by rw [← hq]; exact Nat.lt_of_le_of_lt (Nat.div_le_self _ _) (by omega)
    replace dvA := Lib.hid dvA
    replace dvC := Lib.hid dvC
    replace hg := Lib.hid hg
    replace hp := Lib.hid hp
    replace hq := Lib.hid hq
    by_cases hz2 : hi u = 0
    case' pos =>
      have hz3 : (hi u == 0) = true := by simpa using hz2
      have hz4 : (lo u == 0) = false := by
        have : lo u ≠ 0 := by intro hl; unfold CoRat.hi at hz2; unfold lo at hl; omega
        simpa using this
    case' neg => have hz3 : (hi u == 0) = false := by simpa using hz2
    all_goals
      clear hz hz2
      go_enter Try.func32, Try.ntmps32
      go_wp2_with fail
      refine (rgcd_any _ _ _ _ u v _ (W.mk u) hu (W.mk v) hv).mono ?_; rintro e w1 ⟨rfl, hb1⟩; obtain ⟨hc1, hf1⟩ := bat hb1 (w.heap.size + 3) (by simp)
      rw [hg.out]
      have z1 : w.heap.size < w1.heap.size := by have := hb1.size; simp at this; omega
      have z2 : w.heap.size + 1 < w1.heap.size := by have := hb1.size; simp at this; omega
      have z3 : w.heap.size + 1 + 1 < w1.heap.size := by have := hb1.size; simp at this; omega
      have b1 : Below w.heap.size w w1 := (by go_grown : Below w.heap.size w _).trans (hb1.mono (by simp; omega))
      clear hb1
      go_wp2_with fail
      refine (dvA.out _).mono ?_; rintro e w2 ⟨rfl, hb2⟩; obtain ⟨hc2, hf2⟩ := bat hb2 (w.heap.size + 3) (by simp; omega)
      obtain ⟨hd2, hg2⟩ := bat hb2 (w1.heap.size + 1) (by simp)
      have y1 : w1.heap.size < w2.heap.size := by have := hb2.size; simp at this; omega
      have y2 : w.heap.size < w2.heap.size := by omega
      have y3 : w.heap.size + 1 < w2.heap.size := by omega
      have y4 : w.heap.size + 1 + 1 < w2.heap.size := by omega
      have b2 : Below w.heap.size w w2 := (b1.alloc (by omega) _).trans (hb2.mono (by simp; omega))
      clear hb2
      go_wp2_with fail
      refine (dvC.out _).mono ?_; rintro e w3 ⟨rfl, hb3⟩; obtain ⟨hc3, hf3⟩ := bat hb3 (w.heap.size + 3) (by simp; omega)
      obtain ⟨hd3, hg3⟩ := bat hb3 (w2.heap.size + 2) (by simp)
      have x1 : w2.heap.size < w3.heap.size := by have := hb3.size; simp at this; omega
      have x2 : w2.heap.size + 1 < w3.heap.size := by have := hb3.size; simp at this; omega
      have x3 : w.heap.size + 1 + 1 < w3.heap.size := by omega
      have x4 : w.heap.size + 1 < w3.heap.size := by omega
      have x5 : w.heap.size < w3.heap.size := by omega
      have b3 : Below w.heap.size w w3 := ((b2.alloc (by omega) _).alloc (by simp; omega) _).trans (hb3.mono (by simp; omega))
      have p0 : w3.cell? ⟨w2.heap.size, 0, none⟩ = some (.int .u64 (hi p)) := by rw [hd3 _ _ (by omega)]; go_simp
      have p1 : w3.cell? ⟨w2.heap.size, 1, none⟩ = some (.int .u64 (lo p)) := by rw [hd3 _ _ (by omega)]; go_simp
      have t0 : w3.cell? ⟨w.heap.size + 1 + 1, 0, none⟩ = some (.int .i64 0) := by rw [hc3 _ _ (by omega)]; go_simp
      have t1 : w3.cell? ⟨w.heap.size + 1 + 1, 1, none⟩ = some (.int .i64 0) := by rw [hc3 _ _ (by omega)]; go_simp
      have t2 : w3.frozen? ⟨w.heap.size + 1 + 1, 0, none⟩ = false := by rw [hf3 _ _ (by omega)]; go_simp
      have t3 : w3.frozen? ⟨w.heap.size + 1 + 1, 1, none⟩ = false := by rw [hf3 _ _ (by omega)]; go_simp
      clear hc1 hf1 hc2 hf2 hd2 hg2 hc3 hf3 hd3 hg3 hb3
      have wp := Lib.hid ((W.mk p).bd hpB)
      have wq := Lib.hid ((W.mk q).bd hqB)
      have vp := Lib.hid (W.mk p).val
      have vq := Lib.hid (W.mk q).val
      by_cases hpq : p ≤ 1152921504606846976 ∧ q ≤ 1152921504606846976
      · obtain ⟨hP, hQ⟩ := hpq
        obtain ⟨ep1, ep2⟩ := hi_small (z := p) (by omega)
        obtain ⟨eq1, eq2⟩ := hi_small (z := q) (by omega)
        obtain ⟨k1, k2, k3⟩ := yf.out ⟨hP, hQ⟩
        replace k1 := Lib.hid k1
        replace k2 := Lib.hid k2
        replace k3 := Lib.hid k3
        have hP' : (p : Int) ≤ 1152921504606846976 := by omega
        have hQ' : (q : Int) ≤ 1152921504606846976 := by omega
        cases s
        · go_wp2_with fail
          refine bodyPost_ret (v := .tuple #[.agg #[.int .i64 p, .int .i64 q], .int .i64 0]) (by simp [results, Try.results32, go_sem, t0, t1, x3, x4, x5]) rfl ?_
          exact ⟨by rw [k1.out, k2.out, k3.out]; rfl, ((((two_below b3 (by omega) _ _).alloc (by simp; omega) _).alloc (by simp; omega) _).alloc (by simp; omega) _)⟩
        · go_wp2_with fail
          refine bodyPost_ret (v := .tuple #[.agg #[.int .i64 (-p), .int .i64 q], .int .i64 0]) (by simp [results, Try.results32, go_sem, t0, t1, x3, x4, x5]) rfl ?_
          exact ⟨by rw [k1.out, k2.out, k3.out]; rfl, ((((two_below b3 (by omega) _ _).alloc (by simp; omega) _).alloc (by simp; omega) _).alloc (by simp; omega) _)⟩
      · obtain ⟨k1, k2, k3⟩ := nf.out hpq
        replace k1 := Lib.hid k1
        replace k2 := Lib.hid k2
        replace k3 := Lib.hid k3
        replace hpq := Lib.hid hpq
        go_wp2_with fail
        all_goals first | (exfalso; have a1 := wp.out; have a2 := wq.out; have a3 := vp.out; have a4 := vq.out; have a5 := hpq.out; omega) | skip
        all_goals
          refine bodyPost_ret (v := .tuple #[.agg #[.int .i64 0, .int .i64 0], .int .i64 3]) (by simp [results, Try.results32, go_sem, t0, t1, x3, x4]) rfl ?_
          exact ⟨retF' k1.out.symm k2.out.symm k3.out.symm, ((two_below b3 (by omega) _ _).alloc (by simp; omega) _).alloc (by simp; omega) _⟩
end Go.Proofs.Ytfofmblbcpliaaa
