/- The law MotifsAll. -/
import Derived.Test.YtkcmbpokoijglaaMocF
import Derived.Test.YtkcmbpokoijglaaMotX
import Derived.Test.YtkcmbpokoijglaaMoaA
set_option linter.unusedVariables false
set_option linter.unusedSimpArgs false
namespace Go.Proofs.Ytkcmbpokoijglaa
open Go.RowKit CoMot
/-- How often each motif of two steps is found. -/
def cn (l : List Tick) (w : Int) : List Nat := (motR 2).map fun M => (inst l w M).length
theorem cn_len (l : List Tick) (w : Int) : (cn l w).length = 6 := by unfold cn; rw [List.length_map, motR2_len]
theorem cn_wider {l : List Tick} {w w' : Int} (hw : 0 ≤ w) (hl : ∀ y ∈ l, 0 ≤ y.t) (h : w ≤ w') {k a b : Nat} (ha : (cn l w)[k]? = some a) (hb : (cn l w')[k]? = some b) : a ≤ b := by
  unfold cn at ha hb
  rw [List.getElem?_map] at ha hb
  cases hm : (motR 2)[k]? with
  | none => rw [hm] at ha; cases ha
  | some M =>
    rw [hm] at ha hb
    injection ha with ha
    injection hb with hb
    rw [← ha, ← hb]
    exact inst_wider hw hl h
theorem cn_mov {d : Int} {l : List Tick} {w : Int} (hw : 0 ≤ w) (hd : 0 ≤ d) (hl : ∀ y ∈ l, 0 ≤ y.t) : cn (mov d l) w = cn l w := by
  unfold cn
  exact List.map_congr_left fun M _ => inst_mov hw hd hl
theorem chk_mov {d : Int} {l : List Tick} (h : Tame l) (hl : l.length ≤ 4096) (hd : 0 ≤ d ∧ d ≤ 1000) : chkL (mov d l) = 0 := by
  unfold chkL
  rw [if_neg (by rw [mov_len]; omega)]
  refine chkT_ok _ 0 (fun x hx => ?_) ?_ (fun x hx => ?_)
  · unfold mov at hx
    obtain ⟨y, hy, rfl⟩ := List.mem_map.1 hx
    have := h.time y hy
    simp only; omega
  · unfold mov
    rw [List.pairwise_map]
    exact h.asc.imp (fun h => by simp only; omega)
  · unfold mov at hx
    obtain ⟨y, hy, rfl⟩ := List.mem_map.1 hx
    obtain ⟨a, b, c, d, e⟩ := h.nodes y hy
    exact ⟨nd_small a b, nd_small c d, e⟩
theorem sum_take {L : List Nat} {k x : Nat} (h : L[k]? = some x) : (L.take (k + 1)).sum = (L.take k).sum + x := by
  rw [List.take_add_one, h, List.sum_append]; simp
theorem sum_take_le (L : List Nat) (k : Nat) : (L.take k).sum ≤ L.sum := by
  conv => rhs; rw [← List.take_append_drop k L, List.sum_append]
  omega
theorem cn_sum {l : List Tick} {w : Int} (hw : 0 ≤ w) (hl : ∀ y ∈ l, 0 ≤ y.t) : (cn l w).sum = totS l w l.length := spec_sum hw hl
theorem pc_pair {l : List Tick} {w : Int} {i k : Nat} {x y : Tick} (hx : l[i]? = some x) (hy : l[k]? = some y) (h : i < k) : rc l w i k = if (ofR [x, y]).isSome = true ∧ x.t < y.t ∧ y.t - x.t ≤ w then 1 else 0 := by
  unfold rc pc
  rw [hx, hy]
  simp only [decide_eq_true h, Bool.true_and, Bool.and_eq_true, decide_eq_true_eq]
attribute [local irreducible] wpQuiet
theorem sp2_any (A : Option Addr) (n c : Nat) (l : List Tick) (v : Int) (w : World) (h : RS TE w A n l) (hn : n ≤ 1099511627776) (hnc : n ≤ c) (hck : chkL l = 0) (hv : 0 ≤ v ∧ v ≤ 1000) :
    Calls Try.prog 20 #[.slice A n c, .int .i64 2, .int .i64 v] w fun e w' => ∃ A' c', e = .returned (.tuple #[.slice A' 6 c', .int .i64 0]) ∧ 6 ≤ c' ∧ RS NE w' A' 6 (cn l v) ∧ Below w.heap.size w w' := by
  have e1 : specE l 2 v = 0 := by
    unfold specE spn
    rw [if_neg (by rw [hck]; simp), if_neg (by rw [ex_mot0]; simp), if_neg (by omega)]
  have e2 : specL l 2 v = cn l v := by unfold specL; rw [if_pos e1]; rfl
  have k := spectrum_any A n c l 2 v w h hn hnc
  rw [e1, e2] at k
  refine k.mono ?_
  rintro e w' ⟨A', n', c', rfl, h1, h2, h3⟩
  have := h2.len
  rw [cn_len] at this
  obtain rfl : n' = 6 := by omega
  exact ⟨A', c', rfl, h1, h2, h3⟩

set_option maxRecDepth 100000 in
set_option maxHeartbeats 8000000 in
theorem lawAll_any (A0 : Option Addr) (m0 c0 : Nat) (l : List Int) (sz sb : Nat) (hsz : sz < 256) (hsb : sb < 256) (w : World) (h0 : RI w A0 m0 l) (hmc : m0 ≤ c0) (hm0 : m0 ≤ 1152921504606846976) :
    Calls Try.prog 5 #[.slice A0 m0 c0, .int .u8 sz, .int .u8 sb] w fun e w' => e = .returned (.bool true) ∧ Below w.heap.size w w' := by
  have kaw := Lib.hid fun w => awake31_any w
  have kf := fun w => few_any A0 m0 c0 w
  by_cases hfew : m0 ≤ 500
  rotate_left
  · rw [decide_eq_false hfew] at kf
    replace kf := Lib.hid kf
    go_enter Try.func5, Try.ntmps5
    go_wp2_with fail
    (with_reducible refine (kf.out _).mono ?_); rintro e wf ⟨rfl, hQ⟩; obtain rfl := hQ
    go_wp2_with fail
    (with_reducible refine (kaw.out _).mono ?_); rintro e w1 ⟨rfl, hb1⟩
    go_wp2_with fail
    go_ret
    exact ⟨rfl, hb1⟩
  rw [decide_eq_true hfew] at kf
  replace kf := Lib.hid kf
  have kn := Lib.hid fun w h => new_any A0 m0 c0 l w h hmc hm0
  have kt : Hid (∀ g w, Dk w g → Calls Try.prog 12 #[.pointer (some ⟨g, 0, none⟩), .int .i64 9] w (RetTk w g 9)) := Lib.hid fun g w h => fticks_any g 9 w h (by omega)
  obtain ⟨W10, hW10⟩ : ∃ W10 : Nat, W10 = sz % 10 := ⟨_, rfl⟩
  have hW3 : W10 < 10 := by omega
  have es0 : (sz : Int) % 10 = (W10 : Int) := by omega
  obtain ⟨B5, hB5⟩ : ∃ B5 : Nat, B5 = sb % 5 := ⟨_, rfl⟩
  have hB3 : B5 < 5 := by omega
  have es1 : (sb : Int) % 5 = (B5 : Int) := by omega
  have es2 : IntKind.i64.wrap ((W10 : Int) + (B5 : Int)) = (W10 : Int) + (B5 : Int) := by rw [IntKind.wrap_i64]; omega
  clear hW10 hB5
  go_enter Try.func5, Try.ntmps5
  go_wp2_with fail
  (with_reducible refine (kf.out _).mono ?_); rintro e wf ⟨rfl, hQ⟩; obtain rfl := hQ
  go_wp2_with fail
  (with_reducible refine (kn.out _ h0).mono ?_)
  rintro e w1 ⟨rfl, hD1, hb1, hs1⟩
  generalize hgd : w.heap.size = gd at *
  go_wp2_with fail
  (with_reducible refine (kt.out _ _ hD1).mono ?_)
  rintro e w2 ⟨A, n, c, t, rfl, hnc, hrt, hlt, hT, hD2, hg2, hf2⟩
  have hs2 : gd ≤ w2.heap.size := by have := hg2.size; omega
  have BW2 : Below gd w w2 := hb1.trans (grown_is_below hg2 (Nat.le_refl _) (by omega))
  have hl := Lib.hid hrt.len
  have hn9 : n ≤ 9 := by have := hl.out; omega
  have ht0 := Lib.hid fun y hy => (hT.time y hy).1
  have ks1 := Lib.hid fun w h => sp2_any A n c t (W10 : Int) w h (by omega) hnc (hT.chk (by omega)) (by omega)
  have ks2 := Lib.hid fun w h => sp2_any A n c t ((W10 : Int) + (B5 : Int)) w h (by omega) hnc (hT.chk (by omega)) (by omega)
  have ks3 : Hid (∀ A' c' w, n ≤ c' → RS TE w A' n (mov sb t) → Calls Try.prog 20 #[.slice A' n c', .int .i64 2, .int .i64 W10] w fun e w' => ∃ A' c', e = .returned (.tuple #[.slice A' 6 c', .int .i64 0]) ∧ 6 ≤ c' ∧ RS NE w' A' 6 (cn t W10) ∧ Below w.heap.size w w') := Lib.hid fun A' c' w h1 h2 => by
    have := sp2_any A' n c' (mov sb t) (W10 : Int) w h2 (by omega) h1 (chk_mov hT (by omega) (by omega)) (by omega)
    rwa [cn_mov (by omega) (by omega) ht0.out] at this
  clear hD1 hb1 hs1 hD2 hg2 hf2 h0 kn kt kf
  go_wp2_with fail
  (with_reducible refine (ks1.out _ hrt).mono ?_)
  rintro e w3 ⟨A1, c1, rfl, hc1, hr1, hb3⟩
  have BW3 := BW2.trans (hb3.mono hs2)
  have hs3 := Nat.le_trans hs2 hb3.size
  replace hrt := hrt.below hb3 (Nat.le_refl _)
  clear hb3 BW2 hs2
  go_wp2_with fail
  (with_reducible refine (ks2.out _ hrt).mono ?_)
  rintro e w4 ⟨A2, c2, rfl, hc2, hr2, hb4⟩
  have BW4 := BW3.trans (hb4.mono hs3)
  have hs4 := Nat.le_trans hs3 hb4.size
  replace hrt := hrt.below hb4 (Nat.le_refl _)
  replace hr1 := hr1.below hb4 (Nat.le_refl _)
  clear hb4 BW3 hs3 ks1 ks2
  go_wp2_with fail
  go_loopw [13, 53] (fun o i wr => ∃ (v : Value) (k : Nat), v = o ∧ i = .int .i64 k ∧ k ≤ n ∧ OS TE 33 wr w4.heap.size v (mov sb (t.take k)) ∧ Below w4.heap.size w4 wr) (fun _ i _ => n - (intOf i).toNat)
  case atStart => exact ⟨_, 0, rfl, rfl, Nat.zero_le _, OS.nil_, Below.refl _ _⟩
  case round =>
    obtain ⟨v, k, rfl, rfl, hk, ho, hb5⟩ := hrel
    have hz5 := hb5.size
    by_cases hlt : k < n
    · obtain ⟨ad, x, y, tt, rfl, hbl, hx, -, q0, q1, q2⟩ := (hrt.below hb5 (Nat.le_refl _)).tk' hlt
      have i2 : (0 : Int) ≤ (k : Int) := Int.natCast_nonneg _
      have i3 : (k : Int) < (n : Int) := by omega
      have htm := hT.time _ (List.mem_of_getElem? hx)
      simp only at htm
      have hmv := Lib.hid (mov_take (d := (sb : Int)) hx)
      have hlen5 : (mov (sb : Int) (t.take k)).length ≤ 9 := by rw [mov_len, List.length_take]; have := hl.out; omega
      have qa : IntKind.i64.wrap (tt + (sb : Int)) = tt + (sb : Int) := by rw [IntKind.wrap_i64]; omega
      clear hx
      go_upto_region 11 with fail
      have hbX := ((Below.refl wr.heap.size wr).alloc (Nat.le_refl _) (.cells #[.int .i64 x, .int .i64 y, .int .i64 tt] 33)).setCell (p := ⟨wr.heap.size, 2, none⟩) (Nat.le_refl _) (.int .i64 (tt + (sb : Int)))
      have ho1 := ho.below hbX (Nat.le_refl _)
      have hb51 := hb5.trans (hbX.mono hz5)
      have hN := Blk.new wr 33 #[.int .i64 x, .int .i64 y, .int .i64 tt]
      have hN2 := hN.set 2 (.int .i64 (tt + (sb : Int)))
      simp at hN2
      have z2 := (Blk.cell hN 2).trans rfl
      have z3 := Blk.frozen hN 2
      clear hN hbX
      generalize wr.alloc (.cells #[.int .i64 x, .int .i64 y, .int .i64 tt] 33) = wa at *
      go_upto_region 12 with fail
      have y0 := Blk.cell hN2 0
      have y1 := Blk.cell hN2 1
      have y2 := Blk.cell hN2 2
      simp at y0 y1 y2
      generalize wa.setCell ⟨wr.heap.size, 2, none⟩ (.int .i64 (tt + (sb : Int))) = wz at *
      go_wp2_with (at_builtin; (refine wpList_push1G tyT (y := ⟨x, y, tt + (sb : Int)⟩) rfl rfl _ _ rfl rfl rfl rfl ho1 (by omega) (by omega) hb51.size ?_); intro v6 w6 ho6 hb6 hg6)
      go_roundw
      case rel => exact ⟨_, k + 1, rfl, by go_num, by omega, by rw [hmv.out]; exact ho6, hb51.trans hb6⟩
      case measure => simp [intOf]; omega
    · obtain rfl : k = n := by omega
      rw [List.take_of_length_le (by rw [hl.out]; exact Nat.le_refl _)] at ho
      obtain ⟨A4, n4, c4, rfl, hn4, hc4, -, hr4, hf4⟩ := ho.form
      obtain rfl : n4 = k := by rw [hn4, mov_len]; exact hl.out
      have BW5 := BW4.trans (hb5.mono hs4)
      have hs5 := Nat.le_trans hs4 hb5.size
      replace hr1 := hr1.below hb5 (Nat.le_refl _)
      replace hr2 := hr2.below hb5 (Nat.le_refl _)
      replace hrt := hrt.below hb5 (Nat.le_refl _)
      clear ho hb5 BW4 hs4 hn4 hf4 hk hlt hz5
      go_wp2_with fail
      (with_reducible refine (ks3.out _ _ _ hc4 hr4).mono ?_)
      rintro e w5 ⟨A3, c3, rfl, hc3, hr3, hb6⟩
      have BW6 := BW5.trans (hb6.mono hs5)
      have hs6 := Nat.le_trans hs5 hb6.size
      replace hr1 := hr1.below hb6 (Nat.le_refl _)
      replace hr2 := hr2.below hb6 (Nat.le_refl _)
      replace hrt := hrt.below hb6 (Nat.le_refl _)
      clear hb6 BW5 hs5 ks3 hr4
      generalize n4 = n at *
      have hTot := Lib.hid (cn_sum (l := t) (w := (W10 : Int)) (by omega) ht0.out)
      have hwd := Lib.hid fun k a b => cn_wider (l := t) (w := (W10 : Int)) (w' := (W10 : Int) + (B5 : Int)) (k := k) (a := a) (b := b) (by omega) ht0.out (by omega)
      have hTle := Lib.hid fun k (h : k ≤ n) => Nat.le_trans (totS_le t (W10 : Int) k) (Nat.mul_le_mul h (Nat.le_of_eq hl.out))
      have hnn : n * n ≤ 81 := Nat.mul_le_mul hn9 hn9
      have hRle := Lib.hid fun i k => rowS_le t (W10 : Int) i k
      have hRlow := Lib.hid fun i => rowS_low t (W10 : Int) i (i + 1) (Nat.le_refl _)
      have hRs := Lib.hid fun i k => rowS_succ t (W10 : Int) i k
      have hTs := Lib.hid fun i => totS_succ t (W10 : Int) i
      have hrc := Lib.hid fun i k x y hx hy h => pc_pair (l := t) (w := (W10 : Int)) (i := i) (k := k) (x := x) (y := y) hx hy h
      have kof := Lib.hid fun A n c l w h hn => mofL_any A n c l w h hn
      have hBl := Lib.hid fun w => Below.refl w5.heap.size w
      go_wp2_with fail
      go_loopw [18, 76] (fun s i wr => ∃ (k : Nat), i = .int .i64 k ∧ k ≤ n ∧ s = .int .i64 (totS t W10 k : Nat) ∧ Below w5.heap.size w5 wr) (fun _ i _ => n - (intOf i).toNat)
      case atStart => exact ⟨0, rfl, Nat.zero_le _, rfl, Below.refl _ _⟩
      case round =>
        obtain ⟨k, rfl, hk, rfl, hb7⟩ := hrel
        by_cases hlt : k < n
        · have i2 : (0 : Int) ≤ (k : Int) := Int.natCast_nonneg _
          have i3 : (k : Int) < (n : Int) := by omega
          have e1 : IntKind.i64.wrap ((k : Int) + 1) = ((k + 1 : Nat) : Int) := by rw [IntKind.wrap_i64]; omega
          have hT1 := hTle.out k (by omega)
          go_wp2_with fail
          go_loopw [18, 20] (fun s i wr => ∃ (j : Nat), i = .int .i64 j ∧ k + 1 ≤ j ∧ j ≤ n ∧ s = .int .i64 (totS t W10 k + rowS t W10 k j : Nat) ∧ Below w5.heap.size w5 wr) (fun _ i _ => n - (intOf i).toNat)
          case atStart => exact ⟨k + 1, rfl, Nat.le_refl _, by omega, by rw [hRlow.out k]; rfl, hb7⟩
          case round =>
            clear hb7
            obtain ⟨j, rfl, hj1, hj2, rfl, hb7⟩ := hrel
            by_cases hlt2 : j < n
            · have j2 : (0 : Int) ≤ (j : Int) := Int.natCast_nonneg _
              have j3 : (j : Int) < (n : Int) := by omega
              obtain ⟨ad, a1, a2, a3, rfl, hbl, hx, -, p0, p1, p2⟩ := hrt.tk' hlt
              obtain ⟨ad', b1, b2, b3, had, hbl', hy, -, r0, r1, r2⟩ := hrt.tk' hlt2
              injection had with had; subst had
              have hrc1 := Lib.hid (hrc.out k j _ _ hx hy (by omega))
              have htx := hT.time _ (List.mem_of_getElem? hx)
              have hty := hT.time _ (List.mem_of_getElem? hy)
              simp only at htx hty
              clear hx hy
              have hKS : Hid (∀ W', Below w5.heap.size w5 W' → W'.cell? (ad.add (k * 3)) = some (.int .i64 a1) ∧ W'.cell? ⟨(ad.add (k * 3)).block, (ad.add (k * 3)).off + 1, none⟩ = some (.int .i64 a2) ∧ W'.cell? ⟨(ad.add (k * 3)).block, (ad.add (k * 3)).off + 2, none⟩ = some (.int .i64 a3) ∧ W'.cell? (ad.add (j * 3)) = some (.int .i64 b1) ∧ W'.cell? ⟨(ad.add (j * 3)).block, (ad.add (j * 3)).off + 1, none⟩ = some (.int .i64 b2) ∧ W'.cell? ⟨(ad.add (j * 3)).block, (ad.add (j * 3)).off + 2, none⟩ = some (.int .i64 b3)) := Lib.hid fun W' hs =>
                ⟨(hs.cell (by rw [block_of_add]; exact hbl)).trans p0, (hs.cell (by show (ad.add (k * 3)).block < _; rw [block_of_add]; exact hbl)).trans p1, (hs.cell (by show (ad.add (k * 3)).block < _; rw [block_of_add]; exact hbl)).trans p2, (hs.cell (by rw [block_of_add]; exact hbl)).trans r0, (hs.cell (by show (ad.add (j * 3)).block < _; rw [block_of_add]; exact hbl)).trans r1, (hs.cell (by show (ad.add (j * 3)).block < _; rw [block_of_add]; exact hbl)).trans r2⟩
              clear p0 p1 p2 r0 r1 r2
              obtain ⟨p0, p1, p2, r0, r1, r2⟩ := hKS.out _ hb7
              go_upto_region 22 with fail
              have BX : Below w5.heap.size w5 wr := hb7
              have hsz := hb7.size
              go_loud (go_region_held3 (fun W' => W'.cell? (ad.add (k * 3)) = some (.int .i64 a1) ∧ W'.cell? ⟨(ad.add (k * 3)).block, (ad.add (k * 3)).off + 1, none⟩ = some (.int .i64 a2) ∧ W'.cell? ⟨(ad.add (k * 3)).block, (ad.add (k * 3)).off + 2, none⟩ = some (.int .i64 a3) ∧ W'.cell? (ad.add (j * 3)) = some (.int .i64 b1) ∧ W'.cell? ⟨(ad.add (j * 3)).block, (ad.add (j * 3)).off + 1, none⟩ = some (.int .i64 b2) ∧ W'.cell? ⟨(ad.add (j * 3)).block, (ad.add (j * 3)).off + 2, none⟩ = some (.int .i64 b3))
                ((first | exact hKS.out _ BZ | exact hKS.out _ BX | exact hKS.out _ BX.drew | exact hKS.out _ (BX.drew.alloc hsz _) | exact hKS.out _ (BX.alloc hsz _).drew | exact hKS.out _ (BX.alloc hsz _)))
                ((first
                  | (go_at_call 15; (with_reducible refine (kof.out _ _ _ [(⟨a1, a2, a3⟩ : Tick), ⟨b1, b2, b3⟩] _ (by first | exact RS.blk (Blk.new _ _ _).drew rfl rfl | exact RS.blk (Blk.new _ _ _) rfl rfl) (by omega)).mono ?_); rintro e w8 ⟨A8, n8, c8, rfl, hc8, -, hb8, -⟩; have BZ := (BX.alloc hsz _).drew.trans (hb8.mono (by simp; omega)))
                  | fail)))
              generalize hob : (ofR [(⟨a1, a2, a3⟩ : Tick), ⟨b1, b2, b3⟩]).isSome = ob at *
              obtain ⟨p0, p1, p2, r0, r1, r2⟩ := hKS.out _ BZ
              have hR9 := hRle.out k j
              have qn : IntKind.i64.wrap ((totS t W10 k : Int) + (rowS t W10 k j : Int) + 1) = (totS t W10 k : Int) + (rowS t W10 k j : Int) + 1 := by rw [IntKind.wrap_i64]; omega
              have qs : IntKind.i64.wrap (b3 - a3) = b3 - a3 := by rw [IntKind.wrap_i64]; omega
              go_upto_region 23 with fail
              cases ob with
              | false =>
                have hs1 : Hid (((totS t W10 k + rowS t W10 k (j + 1) : Nat) : Int) = (totS t W10 k : Int) + (rowS t W10 k j : Int)) := Lib.hid (by rw [hRs.out, hrc1.out, if_neg (by simp)]; omega)
                go_quiet (fail)
                go_wp2_with fail
                go_roundw
                case rel => exact ⟨j + 1, by go_num, by omega, by omega, by rw [hs1.out], below_drewN BZ _⟩
                case measure => simp [intOf]; omega
              | true =>
                by_cases hl1 : a3 < b3
                · have d1 : decide (a3 < b3) = true := decide_eq_true hl1
                  by_cases hl2 : b3 - a3 ≤ (W10 : Int)
                  · have d2 : decide (b3 - a3 ≤ (W10 : Int)) = true := decide_eq_true hl2
                    have hs1 : Hid (((totS t W10 k + rowS t W10 k (j + 1) : Nat) : Int) = (totS t W10 k : Int) + (rowS t W10 k j : Int) + 1) := Lib.hid (by rw [hRs.out, hrc1.out, if_pos ⟨rfl, hl1, hl2⟩]; omega)
                    go_quiet (fail)
                    go_wp2_with fail
                    go_roundw
                    case rel => exact ⟨j + 1, by go_num, by omega, by omega, by rw [hs1.out], below_drewN BZ _⟩
                    case measure => simp [intOf]; omega
                  · have d2 : decide (b3 - a3 ≤ (W10 : Int)) = false := decide_eq_false hl2
                    have hs1 : Hid (((totS t W10 k + rowS t W10 k (j + 1) : Nat) : Int) = (totS t W10 k : Int) + (rowS t W10 k j : Int)) := Lib.hid (by rw [hRs.out, hrc1.out, if_neg (fun h => hl2 h.2.2)]; omega)
                    go_quiet (fail)
                    go_wp2_with fail
                    go_roundw
                    case rel => exact ⟨j + 1, by go_num, by omega, by omega, by rw [hs1.out], below_drewN BZ _⟩
                    case measure => simp [intOf]; omega
                · have d1 : decide (a3 < b3) = false := decide_eq_false hl1
                  have hs1 : Hid (((totS t W10 k + rowS t W10 k (j + 1) : Nat) : Int) = (totS t W10 k : Int) + (rowS t W10 k j : Int)) := Lib.hid (by rw [hRs.out, hrc1.out, if_neg (fun h => hl1 h.2.1)]; omega)
                  go_quiet (fail)
                  go_wp2_with fail
                  go_roundw
                  case rel => exact ⟨j + 1, by go_num, by omega, by omega, by rw [hs1.out], below_drewN BZ _⟩
                  case measure => simp [intOf]; omega
            · obtain rfl : j = n := by omega
              have hs1 : Hid (((totS t W10 (k + 1) : Nat) : Int) = ((totS t W10 k + rowS t W10 k j : Nat) : Int)) := Lib.hid (by rw [hTs.out, hl.out])
              go_wp2_with fail
              go_roundw
              case rel => exact ⟨k + 1, by go_num, by omega, by rw [hs1.out], hb7⟩
              case measure => simp [intOf]; omega
        · obtain rfl : k = n := by omega
          have BW7 := BW6.trans (hb7.mono hs6)
          have hs7 := Nat.le_trans hs6 hb7.size
          replace hr1 := hr1.below hb7 (Nat.le_refl _)
          replace hr2 := hr2.below hb7 (Nat.le_refl _)
          replace hr3 := hr3.below hb7 (Nat.le_refl _)
          have hTk := hTle.out k (Nat.le_refl _)
          rw [hl.out] at hTot
          clear hrt BW6 hs6 hlt
          have hcl := Lib.hid (cn_len t (W10 : Int))
          have hst := Lib.hid fun k x h => sum_take (L := cn t (W10 : Int)) (k := k) (x := x) h
          have hsl := Lib.hid fun k => sum_take_le (cn t (W10 : Int)) k
          go_wp2_with fail
          go_loopw [23, 159] (fun s i w9 => ∃ (p : Nat), i = .int .i64 p ∧ p ≤ 6 ∧ s = .int .i64 (((cn t W10).take p).sum : Nat) ∧ Below wr.heap.size wr w9) (fun _ i _ => 6 - (intOf i).toNat)
          case atStart => exact ⟨0, rfl, Nat.zero_le _, rfl, Below.refl _ _⟩
          case round =>
            obtain ⟨p, rfl, hp, rfl, hb9⟩ := hrel
            by_cases hlt3 : p < 6
            · obtain ⟨ad1, x1, rfl, hbl1, hx1, p1⟩ := (hr1.below hb9 (Nat.le_refl _)).nat hlt3
              obtain ⟨ad2, x2, rfl, hbl2, hx2, p2⟩ := (hr2.below hb9 (Nat.le_refl _)).nat hlt3
              obtain ⟨ad3, x3, rfl, hbl3, hx3, p3⟩ := (hr3.below hb9 (Nat.le_refl _)).nat hlt3
              have hx31 : x3 = x1 := by have h1 := hx1.out; have h3 := hx3.out; rw [h1] at h3; injection h3 with h3; exact h3.symm
              subst hx31
              have hle := hwd.out p x3 x2 hx1.out hx2.out
              have hs1 := Lib.hid (hst.out p x3 hx1.out)
              have hs2 := hsl.out (p + 1)
              rw [hs1.out, hTot.out] at hs2
              have j2 : (0 : Int) ≤ (p : Int) := Int.natCast_nonneg _
              have j3 : (p : Int) < 6 := by omega
              have d1 : decide ((x2 : Int) < (x3 : Int)) = false := decide_eq_false (by omega)
              have d2 : ((x3 : Int) != (x3 : Int)) = false := by simp
              have d3 : ((x3 : Int) == (x3 : Int)) = true := by simp
              have qn : IntKind.i64.wrap ((((cn t W10).take p).sum : Nat) + (x3 : Int)) = (((cn t W10).take p).sum : Nat) + (x3 : Int) := by rw [IntKind.wrap_i64]; omega
              have qc : (((((cn t W10).take (p + 1)).sum : Nat) : Int)) = (((cn t W10).take p).sum : Nat) + (x3 : Int) := by rw [hs1.out]; omega
              replace qc := Lib.hid qc
              go_upto_region 33 with fail
              go_quiet (fail)
              go_wp2_with fail
              go_roundw
              case rel => exact ⟨p + 1, by go_num, by omega, by rw [qc.out], below_drewN hb9 _⟩
              case measure => simp [intOf]; omega
            · obtain rfl : p = 6 := by omega
              rw [List.take_of_length_le (by rw [hcl.out]; exact Nat.le_refl _), hTot.out]
              have d3 : (((totS t W10 k : Nat) : Int) == ((totS t W10 k : Nat) : Int)) = true := by simp
              go_wp2_with fail
              (with_reducible refine (kaw.out _).mono ?_); rintro e w10 ⟨rfl, hb10⟩
              go_wp2_with fail
              go_ret
              exact ⟨rfl, by rw [hgd]; exact (BW7.trans (hb9.mono hs7)).trans (hb10.mono (Nat.le_trans hs7 hb9.size))⟩
end Go.Proofs.Ytkcmbpokoijglaa
