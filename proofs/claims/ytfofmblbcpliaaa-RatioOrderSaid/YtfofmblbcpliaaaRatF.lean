/- exact and Make of package ratio. -/
import Derived.Test.YtfofmblbcpliaaaRatE
set_option linter.unusedVariables false
namespace Go.Proofs.Ytfofmblbcpliaaa
open Go.RowKit CoRat

theorem endF {x y : Int} (p q : Nat) (s : Bool) (hx : x = sg s ((p / Nat.gcd p q : Nat) : Int)) (hy : y = ((q / Nat.gcd p q : Nat) : Int)) : ckN x y = redN s p q ∧ ckD x y = redD p q ∧ ckE x y = redE p q := by
  rw [hx, hy]; exact ck_red s p q

def ngB (n : Bool) (u : Nat) : Bool := n && decide (u ≠ 0)
theorem neg_any (h l : Int) (n : Bool) (u : Nat) (w : World) (x : W h l u) (hu : u < B) :
    Calls Try.prog 51 #[.agg #[.int .u64 h, .int .u64 l, .bool n]] w fun e w' => e = .returned (.bool (ngB n u)) ∧ Below w.heap.size w w' := negative_any h l n u w x hu
theorem ng_sign (n n' : Bool) (u v : Nat) (v0 : 0 < v) : redN (ngB n u != ngB n' v) u v = redN (n != n') u v := by
  have h2 : ngB n' v = n' := by unfold ngB; have : v ≠ 0 := by omega
                                simp [this]
  rw [h2]
  by_cases hu : u = 0
  · subst hu; exact redN_zero _ _ _
  · have h1 : ngB n u = n := by unfold ngB; simp [hu]
    rw [h1]

set_option maxHeartbeats 2000000 in
theorem exact_any (h l h' l' : Int) (n n' : Bool) (u v : Nat) (w : World) (x : W h l u) (hu : u < B) (y : W h' l' v) (hv : v * 2 < B) (v0 : 0 < v) :
    Calls Try.prog 30 #[.agg #[.int .u64 h, .int .u64 l, .bool n], .agg #[.int .u64 h', .int .u64 l', .bool n']] w fun e w' => e = .returned (.tuple #[.agg #[.int .i64 (redN (n != n') u v), .int .i64 (redD u v)], .int .i64 (redE u v)]) ∧ Below w.heap.size w w' := by
  obtain ⟨rfl, rfl⟩ := x
  obtain ⟨rfl, rfl⟩ := y
  obtain ⟨g, hg⟩ : ∃ g, Nat.gcd u v = g := ⟨_, rfl⟩
  have hg0 : 0 < g := hg ▸ Nat.gcd_pos_of_pos_right u v0
  have hg1 : g ≤ v := hg ▸ Nat.le_of_dvd v0 (Nat.gcd_dvd_right u v)
  obtain ⟨p, hp⟩ : ∃ p, u / g = p := ⟨_, rfl⟩
  obtain ⟨q, hq⟩ : ∃ q, v / g = q := ⟨_, rfl⟩
  have nf : Hid (¬ (p < 4611686018427387904 ∧ q < 4611686018427387904) → ∀ s, redN s u v = 0 ∧ redD u v = 0 ∧ redE u v = 3) := Lib.hid (by
    intro hh s
    exact not_fits u v (by rw [hg, hp, hq]; exact hh) s)
  replace hg := Lib.hid hg
  replace hp := Lib.hid hp
  replace hq := Lib.hid hq
  have sgn := Lib.hid (ng_sign n n' u v v0)
  obtain ⟨A, hA⟩ : ∃ A : Bool, decide (p < 4611686018427387904) = A := ⟨_, rfl⟩
  obtain ⟨C, hC⟩ : ∃ C : Bool, decide (q < 4611686018427387904) = C := ⟨_, rfl⟩
  obtain ⟨X, hX⟩ : ∃ X : Bool, ngB n u = X := ⟨_, rfl⟩
  obtain ⟨Y, hY⟩ : ∃ Y : Bool, ngB n' v = Y := ⟨_, rfl⟩
  have ngU := fun w => neg_any (hi u) (lo u) n u w (W.mk u) hu
  have ngV := fun w => neg_any (hi v) (lo v) n' v w (W.mk v) (by omega)
  rw [hX] at ngU
  rw [hY] at ngV
  replace ngU := Lib.hid ngU
  replace ngV := Lib.hid ngV
  replace hX := Lib.hid hX
  replace hY := Lib.hid hY
  obtain ⟨P, hP⟩ : ∃ P : Nat, p % 4611686018427387904 = P := ⟨_, rfl⟩
  obtain ⟨Q, hQ⟩ : ∃ Q : Nat, q % 4611686018427387904 = Q := ⟨_, rfl⟩
  have hP1 : (P : Int) ≤ 4611686018427387903 := by omega
  have ovA := fun w => over_any (hi u) (lo u) (hi g) (lo g) n false u g w (W.mk u) hu (W.mk g) (by omega) hg0
  have ovC := fun w => over_any (hi v) (lo v) (hi g) (lo g) n' false v g w (W.mk v) (by omega) (W.mk g) (by omega) hg0
  rw [hp.out, hA, hP] at ovA
  rw [hq.out, hC, hQ] at ovC
  replace ovA := Lib.hid ovA
  replace ovC := Lib.hid ovC
  replace hA := Lib.hid hA
  replace hC := Lib.hid hC
  replace hP := Lib.hid hP
  replace hQ := Lib.hid hQ
  go_enter Try.func30, Try.ntmps30
  go_wp2_with fail
  refine (wcommon_any _ _ _ _ _ _ u v _ (W.mk u) hu (W.mk v) (by omega)).mono ?_; rintro e w1 ⟨rfl, hb⟩; obtain ⟨hc, hf⟩ := bat hb (w.heap.size + 3) (by simp)
  rw [hg.out]
  have z1 : w.heap.size + 3 ≤ w1.heap.size := by have := hb.size; simp at this; omega
  have b1 : Below w.heap.size w w1 := (by go_grown : Below w.heap.size w _).trans (hb.mono (by simp; omega))
  have z2 : w.heap.size < w1.heap.size := by omega
  have z3 : w.heap.size + 1 < w1.heap.size := by omega
  have z4 : w.heap.size + 1 + 1 < w1.heap.size := by omega
  clear hb
  go_wp2_with fail
  refine (ovA.out _).mono ?_; rintro e w2 ⟨rfl, hb2⟩; obtain ⟨hc2, hf2⟩ := bat hb2 (w.heap.size + 3) (by simp; omega)
  obtain ⟨hd2, hg2⟩ := bat hb2 (w1.heap.size + 1) (by simp)
  have y2 : w1.heap.size + 1 ≤ w2.heap.size := by have := hb2.size; simp at this; omega
  have b2 : Below w.heap.size w w2 := (b1.alloc (by omega) _).trans (hb2.mono (by simp; omega))
  clear hb2
  go_wp2_with fail
  refine (ovC.out _).mono ?_; rintro e w3 ⟨rfl, hb3⟩; obtain ⟨hc3, hf3⟩ := bat hb3 (w.heap.size + 3) (by omega)
  have y3 : w.heap.size + 3 ≤ w3.heap.size := by have := hb3.size; omega
  have b3 : Below w.heap.size w w3 := b2.trans (hb3.mono (by omega))
  clear hb3 hd2 hg2 ovA ovC b1 b2
  have t0 : w3.cell? ⟨w.heap.size + 1 + 1, 0, none⟩ = some (.int .i64 0) := by rw [hc3 _ _ (by omega), hc2 _ _ (by omega)]; go_simp
  have t1 : w3.cell? ⟨w.heap.size + 1 + 1, 1, none⟩ = some (.int .i64 0) := by rw [hc3 _ _ (by omega), hc2 _ _ (by omega)]; go_simp
  have t2 : w3.frozen? ⟨w.heap.size + 1 + 1, 0, none⟩ = false := by rw [hf3 _ _ (by omega), hf2 _ _ (by omega)]; go_simp
  have t3 : w3.frozen? ⟨w.heap.size + 1 + 1, 1, none⟩ = false := by rw [hf3 _ _ (by omega), hf2 _ _ (by omega)]; go_simp
  by_cases hAC : A = true ∧ C = true
  · obtain ⟨rfl, rfl⟩ := hAC
    go_wp2_with fail
    go_region_with (first | (go_at_call 51; (with_reducible refine (ngU.out _).mono ?_); rintro e w4 ⟨rfl, hb4⟩; obtain ⟨hc4, hf4⟩ := bat hb4 (w.heap.size + 3) y3; have y4 : w.heap.size + 3 ≤ w4.heap.size := Nat.le_trans y3 hb4.size; have b4 : Below w.heap.size w w4 := (b3.drew).trans (hb4.mono (by simp; omega))) | (go_at_call 51; (with_reducible refine (ngV.out _).mono ?_); rintro e w5 ⟨rfl, hb5⟩; obtain ⟨hc5, hf5⟩ := bat hb5 (w.heap.size + 3) y4; have y5 : w.heap.size + 3 ≤ w5.heap.size := Nat.le_trans y4 hb5.size; have b5 : Below w.heap.size w w5 := b4.trans (hb5.mono (by omega))))
    all_goals
      have hp1 := of_decide_eq_true hA.out
      have hq1 := of_decide_eq_true hC.out
      have hPp : Hid (P = p) := Lib.hid (by rw [← hP.out, Nat.mod_eq_of_lt hp1])
      have hQq : Hid (Q = q) := Lib.hid (by rw [← hQ.out, Nat.mod_eq_of_lt hq1])
      clear hc hf hc2 hf2 hc3 hf3
      cases X <;> cases Y
      · go_wp2_with fail
        refine (checked_any _ _ _).mono ?_; rintro e w6 ⟨rfl, hb6⟩; obtain ⟨hc6, hf6⟩ := bat hb6 (w.heap.size + 3) y5
        go_wp2_with fail
        obtain ⟨k1, k2, k3⟩ := endF (x := P) (y := Q) u v false (by rw [hPp.out, hg.out, hp.out]; rfl) (by rw [hQq.out, hg.out, hq.out])
        have sg := sgn.out
        rw [hX.out, hY.out] at sg
        refine bodyPost_ret (v := .tuple #[.agg #[.int .i64 (ckN (P) Q), .int .i64 (ckD (P) Q)], .int .i64 (ckE (P) Q)]) (by simp [results, Try.results30, go_sem, hc6, hc5, hc4, t0, t1]) rfl ?_
        exact ⟨retF (k1.trans sg) k2 k3, (b5.trans (hb6.mono (by omega))).trans (put2_below (Below.refl _ _) (by have := hb6.size; omega) _ _)⟩
      · go_wp2_with fail
        refine (checked_any _ _ _).mono ?_; rintro e w6 ⟨rfl, hb6⟩; obtain ⟨hc6, hf6⟩ := bat hb6 (w.heap.size + 3) y5
        go_wp2_with fail
        obtain ⟨k1, k2, k3⟩ := endF (x := -P) (y := Q) u v true (by rw [hPp.out, hg.out, hp.out]; rfl) (by rw [hQq.out, hg.out, hq.out])
        have sg := sgn.out
        rw [hX.out, hY.out] at sg
        refine bodyPost_ret (v := .tuple #[.agg #[.int .i64 (ckN (-P) Q), .int .i64 (ckD (-P) Q)], .int .i64 (ckE (-P) Q)]) (by simp [results, Try.results30, go_sem, hc6, hc5, hc4, t0, t1]) rfl ?_
        exact ⟨retF (k1.trans sg) k2 k3, (b5.trans (hb6.mono (by omega))).trans (put2_below (Below.refl _ _) (by have := hb6.size; omega) _ _)⟩
      · go_wp2_with fail
        refine (checked_any _ _ _).mono ?_; rintro e w6 ⟨rfl, hb6⟩; obtain ⟨hc6, hf6⟩ := bat hb6 (w.heap.size + 3) y5
        go_wp2_with fail
        obtain ⟨k1, k2, k3⟩ := endF (x := -P) (y := Q) u v true (by rw [hPp.out, hg.out, hp.out]; rfl) (by rw [hQq.out, hg.out, hq.out])
        have sg := sgn.out
        rw [hX.out, hY.out] at sg
        refine bodyPost_ret (v := .tuple #[.agg #[.int .i64 (ckN (-P) Q), .int .i64 (ckD (-P) Q)], .int .i64 (ckE (-P) Q)]) (by simp [results, Try.results30, go_sem, hc6, hc5, hc4, t0, t1]) rfl ?_
        exact ⟨retF (k1.trans sg) k2 k3, (b5.trans (hb6.mono (by omega))).trans (put2_below (Below.refl _ _) (by have := hb6.size; omega) _ _)⟩
      · go_wp2_with fail
        refine (checked_any _ _ _).mono ?_; rintro e w6 ⟨rfl, hb6⟩; obtain ⟨hc6, hf6⟩ := bat hb6 (w.heap.size + 3) y5
        go_wp2_with fail
        obtain ⟨k1, k2, k3⟩ := endF (x := P) (y := Q) u v false (by rw [hPp.out, hg.out, hp.out]; rfl) (by rw [hQq.out, hg.out, hq.out])
        have sg := sgn.out
        rw [hX.out, hY.out] at sg
        refine bodyPost_ret (v := .tuple #[.agg #[.int .i64 (ckN (P) Q), .int .i64 (ckD (P) Q)], .int .i64 (ckE (P) Q)]) (by simp [results, Try.results30, go_sem, hc6, hc5, hc4, t0, t1]) rfl ?_
        exact ⟨retF (k1.trans sg) k2 k3, (b5.trans (hb6.mono (by omega))).trans (put2_below (Below.refl _ _) (by have := hb6.size; omega) _ _)⟩
  · obtain ⟨k1, k2, k3⟩ := nf.out (by rintro ⟨h1, h2⟩; exact hAC ⟨by rw [← hA.out]; exact decide_eq_true h1, by rw [← hC.out]; exact decide_eq_true h2⟩) (n != n')
    cases A
    case' false => skip
    case' true => obtain rfl : C = false := by cases C <;> simp_all
    all_goals
      clear hAC
      go_wp2_with fail
      refine bodyPost_ret (v := .tuple #[.agg #[.int .i64 0, .int .i64 0], .int .i64 3]) (by simp [results, Try.results30, go_sem, t0, t1]) rfl ?_
      exact ⟨retF k1.symm k2.symm k3.symm, b3.trans (put2_below (Below.refl _ _) (by omega) _ _)⟩
end Go.Proofs.Ytfofmblbcpliaaa
