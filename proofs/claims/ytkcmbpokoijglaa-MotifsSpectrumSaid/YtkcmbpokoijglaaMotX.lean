/- The law MotifsBack. -/
import Derived.Test.YtkcmbpokoijglaaMotW
import Derived.Test.YtkcmbpokoijglaaMotU
set_option linter.unusedVariables false
set_option linter.unusedSimpArgs false
namespace CoMot
theorem chkT_ok : ∀ (l : List Tick) (last : Int), (∀ x ∈ l, last ≤ x.t ∧ x.t ≤ 1048576) → l.Pairwise (fun x y => x.t ≤ y.t) → (∀ x ∈ l, nd x.u = true ∧ nd x.v = true ∧ x.u ≠ x.v) → chkT last l = 0 := by
  intro l
  induction l with
  | nil => intro last _ _ _; rfl
  | cons x r ih =>
    intro last h1 h2 h3
    obtain ⟨p1, p2⟩ := List.pairwise_cons.1 h2
    obtain ⟨q1, q2, q3⟩ := h3 x (by simp)
    have ht := h1 x (by simp)
    unfold chkT
    rw [if_neg (by rw [q1, q2]; simp; exact q3), if_neg (by omega)]
    exact ih x.t (fun y hy => ⟨p1 y hy, (h1 y (by simp [hy])).2⟩) p2 (fun y hy => h3 y (by simp [hy]))
theorem nd_small {x : Int} (h : 0 ≤ x) (h2 : x < 5) : nd x = true := by
  unfold nd; simp; omega
theorem Tame.chk {l : List Tick} (h : Tame l) (hl : l.length ≤ 4096) : chkL l = 0 := by
  unfold chkL
  rw [if_neg (by omega)]
  exact chkT_ok l 0 (fun x hx => by have := h.time x hx; omega) h.asc (fun x hx => by
    obtain ⟨a, b, c, d, e⟩ := h.nodes x hx
    exact ⟨nd_small a b, nd_small c d, e⟩)
theorem Tame.chk_back {l : List Tick} (h : Tame l) (hl : l.length ≤ 4096) : chkL (back 1000 l) = 0 := by
  unfold chkL
  rw [if_neg (by rw [back_len]; omega)]
  refine chkT_ok _ 0 (fun x hx => ?_) ?_ (fun x hx => ?_)
  · unfold back at hx
    obtain ⟨y, hy, rfl⟩ := List.mem_map.1 hx
    have := h.time y (List.mem_reverse.1 hy)
    simp only; omega
  · unfold back
    rw [List.pairwise_map, List.pairwise_reverse]
    exact h.asc.imp (fun h => by simp only; omega)
  · unfold back at hx
    obtain ⟨y, hy, rfl⟩ := List.mem_map.1 hx
    obtain ⟨a, b, c, d, e⟩ := h.nodes y (List.mem_reverse.1 hy)
    exact ⟨nd_small a b, nd_small c d, e⟩
theorem back_drop {T : Int} {l : List Tick} {k : Nat} {x : Tick} (hx : l[k]? = some x) : back T (l.drop k) = back T (l.drop (k + 1)) ++ [⟨x.u, x.v, T - x.t⟩] := by
  obtain ⟨hk, hx⟩ := List.getElem?_eq_some_iff.1 hx
  rw [List.drop_eq_getElem_cons hk, hx]
  simp [back]
/-- The steps in the opposite order, as ticks. -/
def opp (m : List Step) : List Tick := m.reverse.map fun s => ⟨s.1, s.2, 0⟩
theorem opp_drop {m : List Step} {k : Nat} {x : Step} (hx : m[k]? = some x) : opp (m.drop k) = opp (m.drop (k + 1)) ++ [⟨x.1, x.2, 0⟩] := by
  obtain ⟨hk, hx⟩ := List.getElem?_eq_some_iff.1 hx
  rw [List.drop_eq_getElem_cons hk, hx]
  simp [opp]
theorem opp_len (m : List Step) : (opp m).length = m.length := by simp [opp]
theorem opp_of {m : List Step} (h : vld m = true) : ofR (opp m) = ofL m.reverse := by
  obtain ⟨h1, h2, h3⟩ := (vld_iff m).1 h
  unfold ofR
  rw [opp_len, if_neg (by omega)]
  congr 1
  unfold opp
  rw [List.map_map]
  have : (pr ∘ fun s : Step => (⟨s.1, s.2, 0⟩ : Tick)) = id := rfl
  rw [this, List.map_id]
/-- Both counts are the same. -/
theorem back_law {l : List Tick} {m r : List Step} {w : Int} (h : Tame l) (hl : l.length ≤ 4096) (hv : vld m = true) (hr : ofR (opp m) = some r) (hw : 0 ≤ w ∧ w ≤ 100) :
    chkA l m w = 0 ∧ chkA (back 1000 l) r w = 0 ∧ cntR l m w = cntR (back 1000 l) r w := by
  rw [opp_of hv] at hr
  obtain ⟨h1, h2, h3⟩ := (vld_iff m).1 hv
  have hrl := ofL_len hr
  have hvr : vld r = true := (vld_iff r).2 ⟨by simp at hrl; omega, by simp at hrl; omega, (ofL_rev hr).2⟩
  have hs : spn w = 0 := by unfold spn; rw [if_neg (by omega)]
  have e1 : chkA l m w = 0 := by unfold chkA; rw [if_neg (by rw [h.chk hl]; simp), if_neg (by rw [hv]; simp), hs]
  have e2 : chkA (back 1000 l) r w = 0 := by unfold chkA; rw [if_neg (by rw [h.chk_back hl]; simp), if_neg (by rw [hvr]; simp), hs]
  refine ⟨e1, e2, ?_⟩
  unfold cntR
  rw [if_pos e1, if_pos e2, back_same hw.1 (fun y hy => (h.time y hy).1) (fun y hy => by have := (h.time y hy).2; omega) h3 hr]
end CoMot
namespace Go.Proofs.Ytkcmbpokoijglaa
open Go.RowKit CoMot

set_option maxRecDepth 100000 in
set_option maxHeartbeats 8000000 in
theorem lawBack_any (A0 : Option Addr) (m0 c0 : Nat) (l : List Int) (sz : Nat) (hsz : sz < 256) (w : World) (h0 : RI w A0 m0 l) (hmc : m0 ≤ c0) (hm0 : m0 ≤ 1152921504606846976) :
    Calls Try.prog 3 #[.slice A0 m0 c0, .int .u8 sz] w fun e w' => e = .returned (.bool true) ∧ Below w.heap.size w w' := by
  have kaw := Lib.hid fun w => awake31_any w
  have kf := fun w => few_any A0 m0 c0 w
  by_cases hfew : m0 ≤ 500
  rotate_left
  · rw [decide_eq_false hfew] at kf
    replace kf := Lib.hid kf
    go_enter Try.func3, Try.ntmps3
    go_wp2_with fail
    (with_reducible refine (kf.out _).mono ?_); rintro e wf ⟨rfl, hQ⟩; obtain rfl := hQ
    go_wp2_with fail
    (with_reducible refine (kaw.out _).mono ?_); rintro e w1 ⟨rfl, hb1⟩
    go_wp2_with fail
    go_ret
    exact ⟨rfl, hb1⟩
  rw [decide_eq_true hfew] at kf
  replace kf := Lib.hid kf
  have kn := Lib.hid fun w h => new_any A0 m0 c0 l w h hmc hm0
  have kt : Hid (∀ g w, Dk w g → Calls Try.prog 12 #[.pointer (some ⟨g, 0, none⟩), .int .i64 10] w (RetTk w g 10)) := Lib.hid fun g w h => fticks_any g 10 w h (by omega)
  have km := Lib.hid fun g w h => fmotif_any g w h
  have kv := Lib.hid fun A n c m w h hc => mvalid_any A n c m w h hc
  obtain ⟨W12, hW12⟩ : ∃ W12 : Nat, W12 = sz % 12 := ⟨_, rfl⟩
  have hW3 : W12 < 12 := by omega
  have es0 : (sz : Int) % 12 = (W12 : Int) := by omega
  clear hW12
  go_enter Try.func3, Try.ntmps3
  go_wp2_with fail
  (with_reducible refine (kf.out _).mono ?_); rintro e wf ⟨rfl, hQ⟩; obtain rfl := hQ
  go_wp2_with fail
  (with_reducible refine (kn.out _ h0).mono ?_)
  rintro e w1 ⟨rfl, hD1, hb1, hs1⟩
  generalize hgd : w.heap.size = gd at *
  go_wp2_with fail
  (with_reducible refine (kt.out _ _ hD1).mono ?_)
  rintro e w2 ⟨A, n, c, t, rfl, hnc, hrt, hlt, hT, hD2, hg2, hf2⟩
  go_wp2_with fail
  (with_reducible refine (km.out _ _ hD2).mono ?_)
  rintro e w3 ⟨B, k, d, m, rfl, hkd, hrm, hk4, hD3, hg3, hf3⟩
  have hgl2 : ∀ ad, A = some ad → some ad.block ≠ some gd := fun ad he e => by injection e with e; have := hf2 ad he; omega
  have hrt3 := hrt.kept hg3 hgl2
  have BW3 : Below gd w w3 := hb1.trans ((grown_is_below hg2 (Nat.le_refl _) (by omega)).trans (grown_is_below hg3 (Nat.le_refl _) (by have := hg2.size; omega)))
  have hs3 : gd ≤ w3.heap.size := by have := hg2.size; have := hg3.size; omega
  clear hD1 hb1 hs1 hD2 hg2 hg3 hD3 hf2 hf3 hgl2 hrt h0 kn kt km kf
  go_wp2_with fail
  (with_reducible refine (kv.out _ _ _ _ _ hrm hkd).mono ?_)
  rintro e w4 ⟨rfl, hb4⟩
  have BW4 := BW3.trans (hb4.mono hs3)
  have hs4 := Nat.le_trans hs3 hb4.size
  replace hrm := hrm.below hb4 (Nat.le_refl _)
  replace hrt3 := hrt3.below hb4 (Nat.le_refl _)
  clear hb4 BW3 hs3
  cases hv : vld m with
  | false =>
    go_wp2_with fail
    (with_reducible refine (kaw.out _).mono ?_); rintro e w5 ⟨rfl, hb5⟩
    go_wp2_with fail
    go_ret
    exact ⟨rfl, by rw [hgd]; exact BW4.trans (hb5.mono hs4)⟩
  | true =>
  have hl := Lib.hid hrt3.len
  have hlm := Lib.hid hrm.len
  have hn10 : n ≤ 10 := by have := hl.out; omega
  replace hv := Lib.hid hv
  go_wp2_with fail
  go_loopw [8, 9] (fun o i wr => ∃ (v : Value) (kk : Nat) (iv : Int), v = o ∧ i = .int .i64 iv ∧ iv = (kk : Int) - 1 ∧ kk ≤ n ∧ OS TE 33 wr w4.heap.size v (back 1000 (t.drop kk)) ∧ Below w4.heap.size w4 wr) (fun _ i _ => (intOf i + 1).toNat)
  case atStart => exact ⟨_, n, (n : Int) - 1, rfl, rfl, rfl, Nat.le_refl _, by rw [List.drop_of_length_le (by rw [hl.out]; exact Nat.le_refl _)]; exact OS.nil_, Below.refl _ _⟩
  case round =>
    obtain ⟨v, kk, iv, rfl, rfl, hiv, hkk, ho, hb5⟩ := hrel
    cases kk with
    | succ j =>
      obtain rfl : iv = (j : Int) := by omega
      clear hiv
      obtain ⟨ad, x, y, tt, rfl, hbl, hx, -, q0, q1, q2⟩ := (hrt3.below hb5 (Nat.le_refl _)).tk' (show j < n by omega)
      have i2 : (0 : Int) ≤ (j : Int) := Int.natCast_nonneg _
      have i3 : (j : Int) < (n : Int) := by omega
      have htm := hT.time _ (List.mem_of_getElem? hx)
      simp only at htm
      have hbk := Lib.hid (back_drop (T := 1000) hx)
      have hlen5 : (back 1000 (t.drop (j + 1))).length ≤ 10 := by rw [back_len, List.length_drop]; have := hl.out; omega
      clear hx
      go_upto_region 13 with fail
      have hz5 := hb5.size
      have ho1 := ho.alloc (.cells #[.int .i64 x, .int .i64 y, .int .i64 (1000 - tt)] 33)
      have hb51 := hb5.alloc hz5 (.cells #[.int .i64 x, .int .i64 y, .int .i64 (1000 - tt)] 33)
      have hN := Blk.new wr 33 #[.int .i64 x, .int .i64 y, .int .i64 (1000 - tt)]
      generalize wr.alloc (.cells #[.int .i64 x, .int .i64 y, .int .i64 (1000 - tt)] 33) = wz at *
      have z0 := Blk.cell hN 0
      have z1 := Blk.cell hN 1
      have z2 := Blk.cell hN 2
      simp at z0 z1 z2
      go_wp2_with (at_builtin; (refine wpList_push1G tyT (y := ⟨x, y, 1000 - tt⟩) rfl rfl _ _ rfl rfl rfl rfl ho1 (by omega) (by omega) hb51.size ?_); intro v6 w6 ho6 hb6 hg6)
      go_roundw
      case rel => exact ⟨_, j, (j : Int) - 1, rfl, by go_num, rfl, by omega, by rw [hbk.out]; exact ho6, hb51.trans hb6⟩
      case measure => simp [intOf]
    | zero =>
      obtain rfl : iv = -1 := by omega
      clear hiv hkk
      rw [List.drop_zero] at ho
      obtain ⟨A2, n2, c2, rfl, hn2, hc2, -, hr2, hf2⟩ := ho.form
      have BW5 := BW4.trans (hb5.mono hs4)
      have hs5 := Nat.le_trans hs4 hb5.size
      replace hrm := hrm.below hb5 (Nat.le_refl _)
      replace hrt3 := hrt3.below hb5 (Nat.le_refl _)
      have hn2' : n2 ≤ 10 := by rw [hn2, back_len]; have := hl.out; omega
      clear ho hb5 BW4 hs4 hn2 hf2
      generalize wr = wL at *
      go_wp2_with fail
      go_loopw [11, 12] (fun o i w6 => ∃ (v : Value) (kk : Nat) (iv : Int), v = o ∧ i = .int .i64 iv ∧ iv = (kk : Int) - 1 ∧ kk ≤ k ∧ OS TE 33 w6 wL.heap.size v (opp (m.drop kk)) ∧ Below wL.heap.size wL w6) (fun _ i _ => (intOf i + 1).toNat)
      case atStart => exact ⟨_, k, (k : Int) - 1, rfl, rfl, rfl, Nat.le_refl _, by rw [List.drop_of_length_le (by rw [hlm.out]; exact Nat.le_refl _)]; exact OS.nil_, Below.refl _ _⟩
      case round =>
        obtain ⟨v, kk, iv, rfl, rfl, hiv, hkk, ho, hb6⟩ := hrel
        cases kk with
        | succ j =>
          obtain rfl : iv = (j : Int) := by omega
          clear hiv
          obtain ⟨ad, a, b, rfl, hbl, hx, q0, q1⟩ := hrm.st (show j < k by omega)
          have i2 : (0 : Int) ≤ (j : Int) := Int.natCast_nonneg _
          have i3 : (j : Int) < (k : Int) := by omega
          have hop := Lib.hid (opp_drop hx.out)
          have hlen6 : (opp (m.drop (j + 1))).length ≤ 4 := by rw [opp_len, List.length_drop]; have := hlm.out; omega
          clear hx
          have hKS : Hid (∀ W', Below wL.heap.size wL W' → W'.cell? (ad.add (j * 2)) = some (.int .i64 a) ∧ W'.cell? ⟨(ad.add (j * 2)).block, (ad.add (j * 2)).off + 1, none⟩ = some (.int .i64 b)) := Lib.hid fun W' hs => ⟨(hs.cell (p := ad.add (j * 2)) (by rw [block_of_add]; exact hbl)).trans q0, (hs.cell (p := ⟨(ad.add (j * 2)).block, (ad.add (j * 2)).off + 1, none⟩) (by show (ad.add (j * 2)).block < _; rw [block_of_add]; exact hbl)).trans q1⟩
          clear q0 q1
          obtain ⟨q0, q1⟩ := hKS.out _ hb6
          go_upto_region 18 with fail
          have BX : Below wL.heap.size wL wr := hb6
          have hsz := hb6.size
          go_loud (go_region_held3 (fun W' => W'.cell? (ad.add (j * 2)) = some (.int .i64 a) ∧ W'.cell? ⟨(ad.add (j * 2)).block, (ad.add (j * 2)).off + 1, none⟩ = some (.int .i64 b))
            ((first | exact hKS.out _ BZ | exact hKS.out _ BX | exact hKS.out _ BX.drew | exact hKS.out _ (BX.drew.alloc hsz _) | exact hKS.out _ (BX.alloc hsz _).drew))
            ((first
              | (refine step_push_keep tyT (by rfl) (.tmp 59) (.tmp 71) (by rfl) (by rfl) (by rfl) (ho.alloc _).drew (RS.blk (xs := [(⟨a, b, 0⟩ : Tick)]) (Blk.new _ _ _).drew rfl rfl) (by unfold maxLen; omega) (by omega) (by simp; omega) ?_; intro v7 w7 ho7 _ hg7 _; have BZ := (BX.alloc hsz _).drew.trans (Below.grown (Below.refl wL.heap.size _) hg7 (by simp; omega) (fun k hk => (ho.block_lt k hk).1)))
              | fail)))
          go_wp2_with fail
          go_roundw
          case rel => exact ⟨_, j, (j : Int) - 1, rfl, by go_num, rfl, by omega, by rw [hop.out]; exact ho7, BZ⟩
          case measure => simp [intOf]
        | zero =>
          obtain rfl : iv = -1 := by omega
          clear hiv hkk
          rw [List.drop_zero] at ho
          obtain ⟨A3, n3, c3, rfl, hn3, hc3, -, hr3, hf3⟩ := ho.form
          have BW6 := BW5.trans (hb6.mono hs5)
          have hs6 := Nat.le_trans hs5 hb6.size
          replace hrm := hrm.below hb6 (Nat.le_refl _)
          replace hrt3 := hrt3.below hb6 (Nat.le_refl _)
          replace hr2 := hr2.below hb6 (Nat.le_refl _)
          have hn3' : n3 ≤ 4 := by rw [hn3, opp_len]; have := hlm.out; omega
          clear ho hb6 BW5 hs5 hn3 hf3
          have ko := Lib.hid (mofL_any A3 n3 c3 (opp m) wr hr3 (by omega))
          go_wp2_with fail
          (with_reducible refine (ko.out).mono ?_)
          rintro e w7 ⟨A4, n4, c4, rfl, hc4, hr4, hb7, hf4⟩
          have BW7 := BW6.trans (hb7.mono hs6)
          have hs7 := Nat.le_trans hs6 hb7.size
          replace hrm := hrm.below hb7 (Nat.le_refl _)
          replace hrt3 := hrt3.below hb7 (Nat.le_refl _)
          replace hr2 := hr2.below hb7 (Nat.le_refl _)
          clear ko hb7 BW6 hs6 hr3 hc3
          cases hof : ofR (opp m) with
          | none =>
            go_wp2_with fail
            (with_reducible refine (kaw.out _).mono ?_); rintro e w8 ⟨rfl, hb8⟩
            go_wp2_with fail
            go_ret
            exact ⟨rfl, by rw [hgd]; exact BW7.trans (hb8.mono hs7)⟩
          | some r =>
            rw [hof] at hr4
            replace hr4 : RS SE w7 A4 n4 r := hr4
            obtain ⟨e1, e2, e3⟩ := back_law hT (by omega) hv.out hof (w := (W12 : Int)) (by omega)
            have kc1 := fun w h h' => count_any A B n c k d t m (W12 : Int) w h h' (by omega) hnc hkd
            have kc2 := fun w h h' => count_any A2 A4 n2 c2 n4 c4 (back 1000 t) r (W12 : Int) w h h' (by omega) hc2 hc4
            rw [e1] at kc1
            rw [e2, ← e3] at kc2
            replace kc1 := Lib.hid kc1
            replace kc2 := Lib.hid kc2
            clear e1 e2 e3 hof
            go_wp2_with fail
            (with_reducible refine (kc1.out _ hrt3 hrm).mono ?_)
            rintro e w8 ⟨rfl, hb8⟩
            have BW8 := BW7.trans (hb8.mono hs7)
            have hs8 := Nat.le_trans hs7 hb8.size
            replace hr2 := hr2.below hb8 (Nat.le_refl _)
            replace hr4 := hr4.below hb8 (Nat.le_refl _)
            go_wp2_with fail
            (with_reducible refine (kc2.out _ hr2 hr4).mono ?_)
            rintro e w9 ⟨rfl, hb9⟩
            have BW9 := BW8.trans (hb9.mono hs8)
            have hs9 := Nat.le_trans hs8 hb9.size
            clear kc1 kc2
            go_wp2_with fail
            (with_reducible refine (kaw.out _).mono ?_); rintro e w8 ⟨rfl, hb10⟩
            go_wp2_with fail
            go_ret
            exact ⟨rfl, by rw [hgd]; exact BW9.trans (hb10.mono hs9)⟩
end Go.Proofs.Ytkcmbpokoijglaa
