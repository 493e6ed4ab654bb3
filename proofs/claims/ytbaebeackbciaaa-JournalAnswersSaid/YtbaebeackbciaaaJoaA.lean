/- The reference's one. -/
import Derived.Test.YtbaebeackbciaaaJouF
import Derived.BigQuiet
set_option linter.unusedVariables false
set_option linter.unusedSimpArgs false
namespace Go.Proofs.Ytbaebeackbciaaa
open Go.RowKit CoEv

/-- What one returns. -/
def RetOne (w : World) (bs : List Nat) (e : Ending) (w' : World) : Prop :=
  Below w.heap.size w w' ∧ match one bs with
  | none => ∃ v m, e = .returned (.tuple #[v, m, .bool false])
  | some (l, m) => ∃ A n c, e = .returned (.tuple #[.slice A n c, .int .i64 (m : Nat), .bool true]) ∧ n ≤ c ∧ RS EE w' A n l ∧ Fr w.heap.size A

theorem word_ways (y0 y1 y2 y3 S : Nat) (hS : S < 4294967296) :
    (¬ [y0, y1, y2, y3] = word S ∧ (((y0 : Int) != (S : Int) / 16777216) = true ∨ (((y0 : Int) != (S : Int) / 16777216) = false ∧ ((y1 : Int) != (S : Int) / 65536 % 256) = true) ∨ (((y0 : Int) != (S : Int) / 16777216) = false ∧ ((y1 : Int) != (S : Int) / 65536 % 256) = false ∧ ((y2 : Int) != (S : Int) / 256 % 256) = true) ∨
      (((y0 : Int) != (S : Int) / 16777216) = false ∧ ((y1 : Int) != (S : Int) / 65536 % 256) = false ∧ ((y2 : Int) != (S : Int) / 256 % 256) = false ∧ ((y3 : Int) != (S : Int) % 256) = true))) ∨
    ([y0, y1, y2, y3] = word S ∧ ((y0 : Int) != (S : Int) / 16777216) = false ∧ ((y1 : Int) != (S : Int) / 65536 % 256) = false ∧ ((y2 : Int) != (S : Int) / 256 % 256) = false ∧ ((y3 : Int) != (S : Int) % 256) = false) := by
  simp only [bne_iff_ne, bne_eq_false_iff_eq, ne_eq, word, List.cons.injEq, and_true]
  omega

attribute [local irreducible] wpQuiet in
set_option maxRecDepth 100000 in
set_option maxHeartbeats 4000000 in
theorem rone_any (A : Option Addr) (n c : Nat) (bs : List Nat) (w : World) (h : RS BE w A n bs) (hB : Byt bs) (hc : n ≤ c) (hn : n ≤ 1099511627776) :
    Calls Try.prog 35 #[.slice A n c] w (RetOne w bs) := by
  have hl := h.len
  have hno : one bs = none → ∀ v m w', Below w.heap.size w w' → RetOne w bs (.returned (.tuple #[v, m, .bool false])) w' := fun h1 v m w' hb => by
    unfold RetOne; rw [h1]; exact ⟨hb, v, m, rfl⟩
  rcases one_ways bs with ⟨hs, h1⟩ | ⟨a, c', r, rfl, hw⟩
  · have q1 : decide ((n : Int) < 2) = true := by simp; omega
    replace hno := Lib.hid (hno h1)
    go_enter Try.func35, Try.ntmps35
    go_wp2_with fail
    go_quiet (fail)
    go_wp2_with fail
    refine bodyPost_ret (v := .tuple #[.slice none 0 0, .int .i64 0, .bool false]) (by simp [results, Try.results35, go_sem]) rfl ?_
    exact hno.out _ _ _ (below_drewN (Below.refl _ _) _)
  have hl2 : n = r.length + 2 := by rw [← hl]; simp
  have q1 : decide ((n : Int) < 2) = false := by simp; omega
  have ha := hB.at_ (k := 0) rfl
  have hc' := hB.at_ (k := 1) rfl
  obtain ⟨ad, x0, rfl, _, hx0, e0⟩ := h.byte (k := 0) (by omega)
  obtain rfl : a = x0 := by have := hx0.out; simpa using this
  obtain ⟨ad', x1, hA, _, hx1, e1⟩ := h.byte (k := 1) (by omega)
  injection hA with hA
  subst hA
  obtain rfl : c' = x1 := by have := hx1.out; simpa using this
  have e0' : w.cell? ad = some (.int .u8 (a : Int)) := e0
  have e1' : w.cell? ⟨ad.block, ad.off + 1, none⟩ = some (.int .u8 (c' : Int)) := e1
  have u1 : IntKind.u8.wrap (255 - (c' : Int)) = 255 - (c' : Int) := by rw [IntKind.wrap_u8']; omega
  have i1 : (0 : Int) < (n : Int) := by omega
  have i2 : (1 : Int) < (n : Int) := by omega
  rcases hw with ⟨hbad, h1⟩ | ⟨ha0, hac, hw⟩
  · replace hno := Lib.hid (hno h1)
    by_cases hz : a = 0
    · have q2 : ((a : Int) == 0) = true := by simp; omega
      replace hl2 := Lib.hid hl2
      replace hz := Lib.hid hz
      go_enter Try.func35, Try.ntmps35
      go_wp2_with fail
      go_quiet (fail)
      go_wp2_with fail
      refine bodyPost_ret (v := .tuple #[.slice none 0 0, .int .i64 0, .bool false]) (by simp [results, Try.results35, go_sem]) rfl ?_
      exact hno.out _ _ _ (below_drewN (Below.refl _ _) _)
    · have q2 : ((a : Int) == 0) = false := by simp; omega
      have q3 : ((a : Int) != 255 - (c' : Int)) = true := by simp; omega
      replace hl2 := Lib.hid hl2
      replace hz := Lib.hid hz
      go_enter Try.func35, Try.ntmps35
      go_wp2_with fail
      go_quiet (fail)
      go_wp2_with fail
      refine bodyPost_ret (v := .tuple #[.slice none 0 0, .int .i64 0, .bool false]) (by simp [results, Try.results35, go_sem]) rfl ?_
      exact hno.out _ _ _ (below_drewN (Below.refl _ _) _)
  have q2 : ((a : Int) == 0) = false := by simp; omega
  have q3 : ((a : Int) != 255 - (c' : Int)) = false := by simp; omega
  have q6 : IntKind.i64.wrap (a : Int) = (a : Int) := by rw [IntKind.wrap_i64]; omega
  rcases Nat.lt_or_ge r.length (10 * a + 4) with hshort | hlong
  · have h1 : one (a :: c' :: r) = none := by
      rcases hw with ⟨_, h1⟩ | ⟨_, _, h1⟩ | ⟨h2, _⟩
      · exact h1
      · exact h1
      · omega
    replace hno := Lib.hid (hno h1)
    have q7 : decide ((n : Int) < 2 + 10 * (a : Int) + 4) = true := by simp; omega
    replace hl2 := Lib.hid hl2
    replace hac := Lib.hid hac
    clear hw h1
    go_enter Try.func35, Try.ntmps35
    go_wp2_with fail
    go_quiet (fail)
    go_wp2_with fail
    refine bodyPost_ret (v := .tuple #[.slice none 0 0, .int .i64 0, .bool false]) (by simp [results, Try.results35, go_sem]) rfl ?_
    exact hno.out _ _ _ (below_drewN (Below.refl _ _) _)
  have q7 : decide ((n : Int) < 2 + 10 * (a : Int) + 4) = false := by simp; omega
  have hM : (2 : Int) + 10 * (a : Int) = ((2 + 10 * a : Nat) : Int) := by omega
  replace hl2 := Lib.hid hl2
  replace hac := Lib.hid hac
  replace hM := Lib.hid hM
  replace hw := Lib.hid hw
  have i3 : (0 : Int) ≤ 2 + 10 * (a : Int) := by omega
  have i4 : (2 : Int) + 10 * (a : Int) ≤ (c : Int) := by have := hl2.out; omega
  go_enter Try.func35, Try.ntmps35
  go_wp2_with fail
  go_quiet (fail)
  go_upto_region 6 with fail
  rw [hM.out]
  have hMn : 2 + 10 * a + 4 ≤ n := by have := hl2.out; omega
  have htk : (a :: c' :: r).take (2 + 10 * a) = a :: c' :: r.take (10 * a) := by rw [show 2 + 10 * a = (10 * a) + 1 + 1 by omega]; rfl
  have hS := sum_lt (a :: c' :: r.take (10 * a))
  have kS := fun w h => rsum_any (some ad) (2 + 10 * a) c ((a :: c' :: r).take (2 + 10 * a)) w h (hB.take _) (by omega)
  rw [htk] at kS
  have hM1 : ∀ i, (a :: c' :: r)[2 + 10 * a + i]? = (r.drop (10 * a))[i]? := fun i => by
    rw [List.getElem?_drop, show 2 + 10 * a + i = (10 * a + i) + 1 + 1 by omega]; rfl
  have hrs := h.drewN
  have hhead := h.head (k := 2 + 10 * a) (by omega)
  rw [htk] at hhead
  obtain ⟨_, y0, he, _, hy0, f0⟩ := h.byte (k := 2 + 10 * a) (by omega)
  injection he with he; subst he
  obtain ⟨_, y1, he, _, hy1, f1⟩ := h.byte (k := 2 + 10 * a + 1) (by omega)
  injection he with he; subst he
  obtain ⟨_, y2, he, _, hy2, f2⟩ := h.byte (k := 2 + 10 * a + 2) (by omega)
  injection he with he; subst he
  obtain ⟨_, y3, he, _, hy3, f3⟩ := h.byte (k := 2 + 10 * a + 3) (by omega)
  injection he with he; subst he
  have hy : (r.drop (10 * a)).take 4 = [y0, y1, y2, y3] := by
    have g0 := (hM1 0).symm.trans hy0.out
    have g1 := (hM1 1).symm.trans hy1.out
    have g2 := (hM1 2).symm.trans hy2.out
    have g3 := (hM1 3).symm.trans hy3.out
    generalize r.drop (10 * a) = D at *
    match D, g0, g1, g2, g3 with
    | z0 :: z1 :: z2 :: z3 :: D, g0, g1, g2, g3 =>
      simp at g0 g1 g2 g3
      subst g0; subst g1; subst g2; subst g3
      rfl
  have hw' := hw.out
  rw [hy] at hw'
  clear hM1 hy0 hy1 hy2 hy3 hrs htk hw hM i3 i4 q7 hlong
  generalize sum (a :: c' :: r.take (10 * a)) = S at *
  replace hw' := Lib.hid hw'
  replace kS := Lib.hid kS
  replace hy := Lib.hid hy
  generalize hMv : 2 + 10 * a = M at *
  replace hMv := Lib.hid hMv
  have i5 : (0 : Int) ≤ (M : Int) := Int.natCast_nonneg _
  have i6 : (M : Int) ≤ (c : Int) := by omega
  go_wp2_with fail
  (with_reducible refine (kS.out _ (by first | exact hhead.drew | exact hhead.drewN _ | exact hhead)).mono ?_); rintro e wz ⟨rfl, hQ⟩; obtain rfl := hQ.symm
  have j1 : IntKind.i64.wrap ((M : Int) + 1) = (M : Int) + 1 := by rw [IntKind.wrap_i64]; omega
  have j2 : IntKind.i64.wrap ((M : Int) + 2) = (M : Int) + 2 := by rw [IntKind.wrap_i64]; omega
  have j3 : IntKind.i64.wrap ((M : Int) + 3) = (M : Int) + 3 := by rw [IntKind.wrap_i64]; omega
  have k0 : (M : Int) < (n : Int) := by omega
  have k1 : (M : Int) + 1 < (n : Int) := by omega
  have k2 : (M : Int) + 2 < (n : Int) := by omega
  have k3 : (M : Int) + 3 < (n : Int) := by omega
  have l1 : (0 : Int) ≤ (M : Int) + 1 := by omega
  have l2 : (0 : Int) ≤ (M : Int) + 2 := by omega
  have l3 : (0 : Int) ≤ (M : Int) + 3 := by omega
  have f1' : w.cell? ⟨ad.block, ad.off + (M + 1), none⟩ = some (.int .u8 (y1 : Int)) := f1
  have f2' : w.cell? ⟨ad.block, ad.off + (M + 2), none⟩ = some (.int .u8 (y2 : Int)) := f2
  have f3' : w.cell? ⟨ad.block, ad.off + (M + 3), none⟩ = some (.int .u8 (y3 : Int)) := f3
  have t1 : ((M : Int) + 1).toNat = M + 1 := by omega
  have t2 : ((M : Int) + 2).toNat = M + 2 := by omega
  have t3 : ((M : Int) + 3).toNat = M + 3 := by omega
  rcases word_ways y0 y1 y2 y3 S hS with ⟨hne, hb⟩ | ⟨heq, b0, b1, b2, b3⟩
  · have h1 : one (a :: c' :: r) = none := by
      rcases hw'.out with ⟨_, h1⟩ | ⟨_, _, h1⟩ | ⟨_, hw2⟩
      · exact h1
      · exact h1
      · rcases hw2 with ⟨_, h1⟩ | ⟨h2, _⟩
        · exact h1
        · exact absurd h2 hne
    replace hno := Lib.hid (hno h1)
    replace hne := Lib.hid hne
    clear hw' h1
    rcases hb with b0 | ⟨b0, b1⟩ | ⟨b0, b1, b2⟩ | ⟨b0, b1, b2, b3⟩
    all_goals
      go_wp2_with fail
      refine bodyPost_ret (v := .tuple #[.slice none 0 0, .int .i64 0, .bool false]) (by simp [results, Try.results35, go_sem]) rfl ?_
      exact hno.out _ _ _ (below_drewN (Below.refl _ _) _)
  have i7 : (2 : Int) ≤ (M : Int) := by have := hMv.out; omega
  have i8 : ¬ c = 2 := by omega
  have j4 : IntKind.i64.wrap ((M : Int) + 4) = (M : Int) + 4 := by rw [IntKind.wrap_i64]; omega
  have hcut := hhead.cut (k := 2) (cap := c) (by have := hMv.out; omega) (by omega)
  rw [if_neg i8] at hcut
  have hdr : RS BE w (some ⟨ad.block, ad.off + 2, none⟩) (M - 2) (r.take (10 * a)) := hcut
  have kd := fun W h => rdecode4_any (some ⟨ad.block, ad.off + 2, none⟩) (M - 2) (c - 2) (r.take (10 * a)) W h ((hB.drop 2).take _) (by omega) (by omega)
  have hlong : 10 * a + 4 ≤ r.length := by have := hl2.out; have := hMv.out; omega
  have hend : (decE (r.take (10 * a)) ≠ 0 ∧ one (a :: c' :: r) = none) ∨ (decE (r.take (10 * a)) = 0 ∧ one (a :: c' :: r) = some (decL (r.take (10 * a)), 6 + 10 * a)) := by
    rcases hw'.out with ⟨h2, _⟩ | ⟨_, h2, _⟩ | ⟨_, hw2⟩
    · omega
    · omega
    · rcases hw2 with ⟨h2, _⟩ | ⟨_, h2⟩
      · exact absurd heq h2
      · exact h2
  have hMe : Hid (6 + 10 * a = M + 4) := Lib.hid (by have := hMv.out; omega)
  clear hlong hw' hcut
  replace heq := Lib.hid heq
  rcases hend with ⟨hd, h1⟩ | ⟨hd, h1⟩
  · have q8 : (decE (r.take (10 * a)) == 0) = false := by simpa using hd
    replace hno := Lib.hid (hno h1)
    replace hd := Lib.hid hd
    clear h1
    generalize decE (r.take (10 * a)) = C at *
    generalize decL (r.take (10 * a)) = CL at *
    replace kd := Lib.hid kd
    go_wp2_with fail
    (with_reducible refine (kd.out _ (by first | exact hdr.drewN _ | exact hdr)).mono ?_)
    rintro e w2 ⟨A1, n1, c1, rfl, hc1, hr1, hb1, hf1⟩
    go_wp2_with fail
    refine bodyPost_ret (v := .tuple #[.slice A1 n1 c1, .int .i64 (M + 4), .bool false]) (by simp [results, Try.results35, go_sem]) rfl ?_
    exact hno.out _ _ _ ((below_drewN (Below.refl _ _) _).trans hb1)
  · have hyes : Hid (∀ A1 n1 c1 w2, n1 ≤ c1 → RS EE w2 A1 n1 (decL (r.take (10 * a))) → Fr w.heap.size A1 → Below w.heap.size w w2 → RetOne w (a :: c' :: r) (.returned (.tuple #[.slice A1 n1 c1, .int .i64 ((M : Int) + 4), .bool true])) w2) := Lib.hid fun A1 n1 c1 w2 g1 g2 g3 g4 => by
      unfold RetOne
      rw [h1]
      exact ⟨g4, A1, n1, c1, by rw [hMe.out]; simp, g1, g2, g3⟩
    rw [hd] at kd
    replace kd := Lib.hid kd
    replace hd := Lib.hid hd
    clear h1 hno
    go_wp2_with fail
    (with_reducible refine (kd.out _ (by first | exact hdr.drewN _ | exact hdr)).mono ?_)
    rintro e w2 ⟨A1, n1, c1, rfl, hc1, hr1, hb1, hf1⟩
    go_wp2_with fail
    refine bodyPost_ret (v := .tuple #[.slice A1 n1 c1, .int .i64 (M + 4), .bool true]) (by simp [results, Try.results35, go_sem]) rfl ?_
    exact hyes.out _ _ _ _ hc1 hr1 hf1 ((below_drewN (Below.refl _ _) _).trans hb1)
end Go.Proofs.Ytbaebeackbciaaa
