/- The law MotifsNames. -/
import Derived.Test.YtkcmbpokoijglaaMoaA
import Derived.Test.YtkcmbpokoijglaaMoaB
import Derived.Test.YtkcmbpokoijglaaMakC
set_option linter.unusedVariables false
set_option linter.unusedSimpArgs false
namespace CoMot
theorem ren_take {ns : List Int} {l : List Tick} {k : Nat} {x : Tick} (hx : l[k]? = some x) : ren ns (l.take (k + 1)) = ren ns (l.take k) ++ [⟨nam ns x.u, nam ns x.v, x.t⟩] := by
  obtain ⟨hk, hx⟩ := List.getElem?_eq_some_iff.1 hx
  unfold ren
  rw [List.take_succ_eq_append_getElem hk, List.map_append, hx]
  rfl
end CoMot
namespace Go.Proofs.Ytkcmbpokoijglaa
open Go.RowKit CoMot

set_option maxRecDepth 100000 in
set_option maxHeartbeats 8000000 in
theorem lawNames_any (A0 : Option Addr) (m0 c0 : Nat) (l : List Int) (sz : Nat) (hsz : sz < 256) (w : World) (h0 : RI w A0 m0 l) (hmc : m0 ≤ c0) (hm0 : m0 ≤ 1152921504606846976) :
    Calls Try.prog 4 #[.slice A0 m0 c0, .int .u8 sz] w fun e w' => e = .returned (.bool true) ∧ Below w.heap.size w w' := by
  have kaw := Lib.hid fun w => awake31_any w
  have kf := fun w => few_any A0 m0 c0 w
  by_cases hfew : m0 ≤ 500
  rotate_left
  · rw [decide_eq_false hfew] at kf
    replace kf := Lib.hid kf
    go_enter Try.func4, Try.ntmps4
    go_wp2_with fail
    (with_reducible refine (kf.out _).mono ?_); rintro e wf ⟨rfl, hQ⟩; obtain rfl := hQ
    go_wp2_with fail
    (with_reducible refine (kaw.out _).mono ?_); rintro e w1 ⟨rfl, hb1⟩
    go_wp2_with fail
    go_ret
    exact ⟨rfl, hb1⟩
  rw [decide_eq_true hfew] at kf
  replace kf := Lib.hid kf
  have kn := Lib.hid fun w h => new_any A0 m0 c0 l w h hmc hm0
  have kt : Hid (∀ g w, Dk w g → Calls Try.prog 12 #[.pointer (some ⟨g, 0, none⟩), .int .i64 9] w (RetTk w g 9)) := Lib.hid fun g w h => fticks_any g 9 w h (by omega)
  have km := Lib.hid fun g w h => fmotif_any g w h
  have ko : Hid (∀ g w, Dk w g → Calls Try.prog 17 #[.pointer (some ⟨g, 0, none⟩), .int .i64 8] w (RetD w g (fun xs => Ord xs 8))) := Lib.hid fun g w h => mkorder_any g 8 w h (by omega)
  have kv := Lib.hid fun A n c m w h hc => mvalid_any A n c m w h hc
  obtain ⟨W12, hW12⟩ : ∃ W12 : Nat, W12 = sz % 10 := ⟨_, rfl⟩
  have hW3 : W12 < 10 := by omega
  have es0 : (sz : Int) % 10 = (W12 : Int) := by omega
  clear hW12
  go_enter Try.func4, Try.ntmps4
  go_wp2_with fail
  (with_reducible refine (kf.out _).mono ?_); rintro e wf ⟨rfl, hQ⟩; obtain rfl := hQ
  go_wp2_with fail
  (with_reducible refine (kn.out _ h0).mono ?_)
  rintro e w1 ⟨rfl, hD1, hb1, hs1⟩
  generalize hgd : w.heap.size = gd at *
  go_wp2_with fail
  (with_reducible refine (kt.out _ _ hD1).mono ?_)
  rintro e w2 ⟨A, n, c, t, rfl, hnc, hrt, hlt, hT, hD2, hg2, hf2⟩
  go_wp2_with fail
  (with_reducible refine (km.out _ _ hD2).mono ?_)
  rintro e w3 ⟨B, k, d, m, rfl, hkd, hrm, hk4, hD3, hg3, hf3⟩
  have hgl2 : ∀ ad, A = some ad → some ad.block ≠ some gd := fun ad he e => by injection e with e; have := hf2 ad he; omega
  have hgl3 : ∀ ad, B = some ad → some ad.block ≠ some gd := fun ad he e => by injection e with e; have := hf3 ad he; have := hg2.size; omega
  have hrt3 := hrt.kept hg3 hgl2
  have BW3 : Below gd w w3 := hb1.trans ((grown_is_below hg2 (Nat.le_refl _) (by omega)).trans (grown_is_below hg3 (Nat.le_refl _) (by have := hg2.size; omega)))
  have hs3 : gd ≤ w3.heap.size := by have := hg2.size; have := hg3.size; omega
  clear hD1 hb1 hs1 hD2 hg2 hg3 hf2 hf3 hrt h0 kn kt km kf
  go_wp2_with fail
  (with_reducible refine (ko.out _ _ hD3).mono ?_)
  rintro e w4 ⟨ns, A5, n5, c5, rfl, hnc5, hOr, hrn, hf5, hD4, hg4⟩
  replace hrt3 := hrt3.kept hg4 hgl2
  replace hrm := hrm.kept hg4 hgl3
  have BW4 := BW3.trans (grown_is_below hg4 (Nat.le_refl _) hs3)
  have hs4 := Nat.le_trans hs3 hg4.size
  obtain ⟨o1, o2, o3⟩ := hOr
  obtain rfl : n5 = 8 := by rw [← hrn.len]; exact o1
  have hl := Lib.hid hrt3.len
  have hn10 : n ≤ 9 := by have := hl.out; omega
  clear hD3 hD4 hg4 hf5 hgl2 hgl3 BW3 hs3 ko
  replace o1 := Lib.hid o1
  go_wp2_with fail
  go_loopw [10, 36] (fun o i wr => ∃ (v : Value) (kk : Nat), v = o ∧ i = .int .i64 kk ∧ kk ≤ n ∧ OS TE 33 wr w4.heap.size v (ren ns (t.take kk)) ∧ Below w4.heap.size w4 wr) (fun _ i _ => n - (intOf i).toNat)
  case atStart => exact ⟨_, 0, rfl, rfl, Nat.zero_le _, OS.nil_, Below.refl _ _⟩
  case round =>
    obtain ⟨v, kk, rfl, rfl, hkk, ho, hb5⟩ := hrel
    by_cases hlt2 : kk < n
    · obtain ⟨ad, x, y, tt, rfl, hbl, hx, -, q0, q1, q2⟩ := (hrt3.below hb5 (Nat.le_refl _)).tk' hlt2
      have i2 : (0 : Int) ≤ (kk : Int) := Int.natCast_nonneg _
      have i3 : (kk : Int) < (n : Int) := by omega
      obtain ⟨b1, b2, b3, b4, b5⟩ := hT.nodes _ (List.mem_of_getElem? hx)
      simp only at b1 b2 b3 b4 b5
      have hbk := Lib.hid (ren_take (ns := ns) hx)
      have hlen5 : (ren ns (t.take kk)).length ≤ 9 := by rw [ren_len, List.length_take]; have := hl.out; omega
      have m1 := nam_at (ns := ns) b1 (by rw [o1.out]; omega)
      have m2 := nam_at (ns := ns) b3 (by rw [o1.out]; omega)
      obtain ⟨ux, rfl⟩ : ∃ ux : Nat, x = (ux : Int) := ⟨x.toNat, by omega⟩
      obtain ⟨uy, rfl⟩ : ∃ uy : Nat, y = (uy : Int) := ⟨y.toNat, by omega⟩
      have hrn5 := hrn.below hb5 (Nat.le_refl _)
      obtain ⟨nd, y1, rfl, hy1, e1⟩ := hrn5.get (show ux < 8 by omega)
      obtain ⟨nd', y2, hnd, hy2, e2⟩ := hrn5.get (show uy < 8 by omega)
      injection hnd with hnd; subst hnd
      have p1 : y1 = nam ns (ux : Int) := by have h1 := hy1.out; rw [Int.toNat_natCast] at m1; rw [m1] at h1; injection h1 with h1; exact h1.symm
      have p2 : y2 = nam ns (uy : Int) := by have h1 := hy2.out; rw [Int.toNat_natCast] at m2; rw [m2] at h1; injection h1 with h1; exact h1.symm
      rw [← p1, ← p2] at hbk
      clear hx m1 m2 hy1 hy2 p1 p2 b5
      obtain ⟨nbd, hnb, hnlt⟩ : ∃ nb, nd.block = nb ∧ nb < w4.heap.size := by
        obtain ⟨ad', he, hb, _⟩ := hrn.2 (by omega)
        injection he with he; subst he
        exact ⟨_, rfl, hb⟩
      have hv1 := Lib.hid ho.ne_new
      have hv2 : Hid (some nbd ≠ v.ownBlock) := Lib.hid (fun e => by have := (ho.block_lt _ e.symm).1; omega)
      go_upto_region 10 with fail
      have hz5 := hb5.size
      have hbl1 : nd.block < wr.heap.size := by rw [hnb]; omega
      have e1' := (((Below.refl wr.heap.size wr).alloc (Nat.le_refl _) (.cells #[.int .i64 (ux : Int), .int .i64 (uy : Int), .int .i64 tt] 33)).cell (p := nd.add ux) (by rw [block_of_add]; exact hbl1)).trans e1
      have e2' := (((Below.refl wr.heap.size wr).alloc (Nat.le_refl _) (.cells #[.int .i64 (ux : Int), .int .i64 (uy : Int), .int .i64 tt] 33)).cell (p := nd.add uy) (by rw [block_of_add]; exact hbl1)).trans e2
      have ho1 := ho.alloc (.cells #[.int .i64 (ux : Int), .int .i64 (uy : Int), .int .i64 tt] 33)
      have hb51 := hb5.alloc hz5 (.cells #[.int .i64 (ux : Int), .int .i64 (uy : Int), .int .i64 tt] 33)
      have hN := Blk.new wr 33 #[.int .i64 (ux : Int), .int .i64 (uy : Int), .int .i64 tt]
      clear e1 e2 hbl1
      generalize wr.alloc (.cells #[.int .i64 (ux : Int), .int .i64 (uy : Int), .int .i64 tt] 33) = wz at *
      generalize wr.heap.size = bx at *
      have z0 := Blk.cell hN 0
      have z1 := Blk.cell hN 1
      have z2 := Blk.cell hN 2
      simp at z0 z1 z2
      have hNl := hN.lt
      have hsz := hb51.size
      clear q0 q1 q2 hbl ho hb5
      have BX : Below w4.heap.size w4 wz := hb51
      have hKS : Hid (∀ W', wz.grownBy W' v.ownBlock → W'.cell? (nd.add ux) = some (.int .i64 y1) ∧ W'.cell? (nd.add uy) = some (.int .i64 y2) ∧ W'.cell? ⟨bx, 0, none⟩ = some (.int .i64 (ux : Int)) ∧ W'.cell? ⟨bx, 1, none⟩ = some (.int .i64 (uy : Int)) ∧ W'.cell? ⟨bx, 2, none⟩ = some (.int .i64 tt)) := Lib.hid fun W' hg =>
        ⟨(hg.block_cell _ (by rw [block_of_add, hnb]; omega) (by rw [block_of_add, hnb]; exact hv2.out)).trans e1', (hg.block_cell _ (by rw [block_of_add, hnb]; omega) (by rw [block_of_add, hnb]; exact hv2.out)).trans e2',
          (hg.block_cell _ hNl hv1.out).trans z0, (hg.block_cell _ hNl hv1.out).trans z1, (hg.block_cell _ hNl hv1.out).trans z2⟩
      have BG : wz.grownBy wz v.ownBlock := ⟨rfl, rfl, rfl, Nat.le_refl _, fun _ _ _ => rfl⟩
      have k1 : (ux : Int) < 8 := by omega
      have k2 : (uy : Int) < 8 := by omega
      go_loud (go_region_held3 (fun W' => W'.cell? (nd.add ux) = some (.int .i64 y1) ∧ W'.cell? (nd.add uy) = some (.int .i64 y2) ∧ W'.cell? ⟨bx, 0, none⟩ = some (.int .i64 (ux : Int)) ∧ W'.cell? ⟨bx, 1, none⟩ = some (.int .i64 (uy : Int)) ∧ W'.cell? ⟨bx, 2, none⟩ = some (.int .i64 tt))
            ((first | exact hKS.out _ BZ | exact ⟨e1', e2', z0, z1, z2⟩ | exact hKS.out _ (grown_drew BG) | exact hKS.out _ (grown_alloc BG _).drew | exact hKS.out _ (grown_drew (grown_alloc BG _))  | exact hKS.out _ (grown_alloc (grown_drew BG) _)))
            ((first
              | (refine step_push_keep tyT (by rfl) (.tmp 40) (.tmp 54) (by rfl) (by rfl) (by rfl) (ho1.alloc _).drew (RS.blk (xs := [(⟨y1, y2, tt⟩ : Tick)]) (Blk.new _ _ _).drew rfl rfl) (by unfold maxLen; omega) (by omega) (by simp; omega) ?_; intro v7 w7 ho7 _ hg7 _; have BZ := grown_trans (grown_drew (grown_alloc BG _)) hg7; have BY := (BX.alloc hsz _).drew.trans (Below.grown (Below.refl w4.heap.size _) hg7 (by simp; omega) (fun k hk => (ho1.block_lt k hk).1)))
              | fail)))
      go_wp2_with fail
      go_roundw
      case rel => exact ⟨_, kk + 1, rfl, by go_num, by omega, by rw [hbk.out]; exact ho7, BY⟩
      case measure => simp [intOf]; omega
    · obtain rfl : kk = n := by omega
      rw [List.take_of_length_le (by rw [hl.out]; exact Nat.le_refl _)] at ho
      obtain ⟨A2, n2, c2, rfl, hn2, hc2, -, hr2, -⟩ := ho.form
      have BW5 := BW4.trans (hb5.mono hs4)
      have hs5 := Nat.le_trans hs4 hb5.size
      replace hrm := hrm.below hb5 (Nat.le_refl _)
      replace hrt3 := hrt3.below hb5 (Nat.le_refl _)
      have hn2' : n2 ≤ 9 := by rw [hn2, ren_len]; have := hl.out; omega
      have hwk : (0 : Int) ≤ (W12 : Int) ∧ (W12 : Int) ≤ 100 := by omega
      have hkI := fun w h h' => instances_any A B kk c k d t m (W12 : Int) 4096 w h h' (by omega) hnc hkd
      have hkJ := fun w h h' => instances_any A2 B n2 c2 k d (ren ns t) m (W12 : Int) 4096 w h h' (by omega) hc2 hkd
      have hkC := fun w h h' => count_any A B (kk / 2) c k d (t.take (kk / 2)) m (W12 : Int) w h h' (by omega) (by omega) hkd
      clear hn2 hb5 BW4 hs4 hrn ho
      cases hv : vld m with
      | false =>
        obtain ⟨e1, e2⟩ := names_bad (w := (W12 : Int)) hT (by omega) hv o2 o1.out (by simpa using o3)
        rw [e1] at hkI
        rw [e2] at hkJ
        replace hkI := Lib.hid hkI
        replace hkJ := Lib.hid hkJ
        replace hv := Lib.hid hv
        clear hkC e1 e2
        go_wp2_with fail
        (with_reducible refine (hkI.out _ hrt3 hrm).mono ?_)
        rintro e w6 ⟨A6, n6, c6, rfl, -, -, hb6⟩
        have BW6 := BW5.trans (hb6.mono hs5)
        have hs6 := Nat.le_trans hs5 hb6.size
        replace hrm := hrm.below hb6 (Nat.le_refl _)
        replace hr2 := hr2.below hb6 (Nat.le_refl _)
        clear hrt3 hb6 BW5 hs5
        go_wp2_with fail
        (with_reducible refine (hkJ.out _ hr2 hrm).mono ?_)
        rintro e w7 ⟨A7, n7, c7, rfl, -, -, hb7⟩
        have BW7 := BW6.trans (hb7.mono hs6)
        have hs7 := Nat.le_trans hs6 hb7.size
        replace hrm := hrm.below hb7 (Nat.le_refl _)
        clear hr2 hb7 BW6 hs6
        go_wp2_with fail
        (with_reducible refine (kv.out _ _ _ _ _ hrm hkd).mono ?_)
        rintro e w8 ⟨rfl, hb8⟩
        rw [hv.out]
        have BW8 := BW7.trans (hb8.mono hs7)
        have hs8 := Nat.le_trans hs7 hb8.size
        go_wp2_with fail
        (with_reducible refine (kaw.out _).mono ?_); rintro e w9 ⟨rfl, hb9⟩
        go_wp2_with fail
        go_ret
        exact ⟨rfl, by rw [hgd]; exact BW8.trans (hb9.mono hs8)⟩
      | true =>
        obtain ⟨e1, e2, e3, e4, e5, e6, e7⟩ := names_law (w := (W12 : Int)) hT (by omega) hv o2 o1.out (by simpa using o3) hwk (kk / 2)
        rw [e1] at hkI
        rw [e2, e3] at hkJ
        rw [e4] at hkC
        generalize insL t m (W12 : Int) 4096 = LL at *
        generalize cntR (t.take (kk / 2)) m (W12 : Int) = CC at *
        have hkl := Lib.hid fun (A B : Option Addr) (n m c d : Nat) w h h' (hn : n ≤ 1099511627776) => lists_any A B n m c d LL w h h' hn (fun l hl => by have := e7 l hl; omega)
        replace hkI := Lib.hid hkI
        replace hkJ := Lib.hid hkJ
        replace hkC := Lib.hid hkC
        replace hv := Lib.hid hv
        replace e5 := Lib.hid e5
        clear e1 e2 e3 e4 e7
        go_wp2_with fail
        (with_reducible refine (hkI.out _ hrt3 hrm).mono ?_)
        rintro e w6 ⟨A6, n6, c6, rfl, hc6, hr6, hb6⟩
        have BW6 := BW5.trans (hb6.mono hs5)
        have hs6 := Nat.le_trans hs5 hb6.size
        replace hrm := hrm.below hb6 (Nat.le_refl _)
        replace hr2 := hr2.below hb6 (Nat.le_refl _)
        replace hrt3 := hrt3.below hb6 (Nat.le_refl _)
        clear hb6 BW5 hs5
        go_wp2_with fail
        (with_reducible refine (hkJ.out _ hr2 hrm).mono ?_)
        rintro e w7 ⟨A7, n7, c7, rfl, hc7, hr7, hb7⟩
        have BW7 := BW6.trans (hb7.mono hs6)
        have hs7 := Nat.le_trans hs6 hb7.size
        replace hrm := hrm.below hb7 (Nat.le_refl _)
        replace hrt3 := hrt3.below hb7 (Nat.le_refl _)
        replace hr6 := hr6.below hb7 (Nat.le_refl _)
        clear hr2 hb7 BW6 hs6
        go_wp2_with fail
        (with_reducible refine (kv.out _ _ _ _ _ hrm hkd).mono ?_)
        rintro e w8 ⟨rfl, hb8⟩
        rw [hv.out]
        have BW8 := BW7.trans (hb8.mono hs7)
        have hs8 := Nat.le_trans hs7 hb8.size
        replace hrm := hrm.below hb8 (Nat.le_refl _)
        replace hrt3 := hrt3.below hb8 (Nat.le_refl _)
        replace hr6 := hr6.below hb8 (Nat.le_refl _)
        replace hr7 := hr7.below hb8 (Nat.le_refl _)
        clear hb8 BW7 hs7
        go_wp2_with fail
        (with_reducible refine (hkC.out _ (hrt3.head (by omega)) hrm).mono ?_)
        rintro e w9 ⟨rfl, hb9⟩
        have BW9 := BW8.trans (hb9.mono hs8)
        have hs9 := Nat.le_trans hs8 hb9.size
        replace hr6 := hr6.below hb9 (Nat.le_refl _)
        replace hr7 := hr7.below hb9 (Nat.le_refl _)
        have hn6 : n6 ≤ 1099511627776 := by have := hr6.len; omega
        have he5 : CC ≤ (n6 : Int) := by have := hr6.len; have := e5.out; omega
        clear hb9 BW8 hs8 hrm hrt3 hkC hkI hkJ e6
        go_wp2_with fail
        (with_reducible refine (hkl.out _ _ _ _ _ _ _ hr6 hr7 hn6).mono ?_)
        rintro e w10 ⟨rfl, hb10⟩
        have BW10 := BW9.trans (hb10.mono hs9)
        have hs10 := Nat.le_trans hs9 hb10.size
        go_wp2_with fail
        (with_reducible refine (kaw.out _).mono ?_); rintro e w11 ⟨rfl, hb11⟩
        go_wp2_with fail
        go_ret
        exact ⟨rfl, by rw [hgd]; exact BW10.trans (hb11.mono hs10)⟩
end Go.Proofs.Ytkcmbpokoijglaa
