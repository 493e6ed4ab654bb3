/- The law CoreProves: its walk. -/
import Derived.Test.YtciehcageghggaaDoorLawO
import Derived.Test.YtciehcageghggaaDoorChkM
import Derived.Test.YtciehcageghggaaDoorPre
set_option linter.unusedVariables false
namespace Go.Proofs.YtciehcageghggaaDoor
open Go.RowKit CoBit

theorem isChk_zero {n : Nat} {es : List (Int × Int)} {ns o : List Int} {x : Int} (h : IsChk n es ns o x) (h0 : x = 0) (hz : chkG n es = 0) (hl : ns.length = n) (hp : Per o n) : okTo (nbG n es) ns o o.length := by
  rcases h.2.2 hz (by rw [hl]) (per_ordI hp) with ⟨_, hok⟩ | ⟨h12, _⟩
  · exact hok
  · omega

set_option maxRecDepth 100000 in
set_option maxHeartbeats 2000000 in
theorem lawProves_any (A0 : Option Addr) (m0 c0 : Nat) (l : List Int) (AB : Option Addr) (mB cB : Nat) (by_ : List Int) (w : World) (hT : Tab w) (h0 : RI w A0 m0 l) (hmc : m0 ≤ c0) (hm0 : m0 ≤ 1152921504606846976) (hB : RI w AB mB by_) (hmB : mB ≤ 1152921504606846976) :
    Calls Tryd.prog 4 #[.slice A0 m0 c0, .slice AB mB cB] w fun e w' => e = .returned (.bool true) ∧ Below w.heap.size w w' := by
  go_enter Tryd.func4, Tryd.ntmps4
  go_wp2_with fail
  refine (new_any A0 m0 c0 l w h0 hmc hm0).mono ?_
  rintro e w1 ⟨rfl, hd1, hb1, hs1⟩
  go_wp2_with fail
  refine (mkgraph_any _ 8 _ hd1 (by omega)).mono ?_
  rintro e w2 ⟨n, es, A, m, c, rfl, hmcc, hr2, hf2, hsrt, hn9, hd2, hg2⟩
  have hz := Lib.hid (chk_of_srt hsrt (by omega) (by omega))
  have hlen : m ≤ 64 := by
    have h1 := srt_len hsrt
    have h2 := hr2.len
    have h3 : n * n ≤ 8 * 8 := Nat.mul_le_mul hn9 hn9
    omega
  have hb2 : Below w.heap.size w w2 := hb1.grown hg2 (by omega) (fun k hk => by injection hk with hk; omega)
  have hs2 := hb2.size
  have hA0 : Hid (∀ ad, A = some ad → some ad.block ≠ some w.heap.size) := Lib.hid fun ad h e => by have := hf2 ad h; injection e with e; omega
  clear hs1 hb1 hf2 hg2 h0
  go_wp2_with fail
  generalize hw3 : w2.alloc (.cells #[.int .i64 n, .slice A m c] 28) = w3
  have hG : Blk w3 w2.heap.size 28 #[.int .i64 n, .slice A m c] := hw3 ▸ Blk.new w2 _ _
  have hr3 : RE w3 A m es := hw3 ▸ hr2.alloc _
  have hd3 : Dk w3 w.heap.size := hw3 ▸ hd2.alloc _
  have hb3 : Below w.heap.size w w3 := hw3 ▸ hb2.alloc hs2 _
  have hT3 := hT.keep hb3
  have hdl := hd2.lt
  clear hw3 hr2 hd2 hb2
  generalize w2.heap.size = gg at *
  have hgl := hG.lt
  refine (cNumbers_any A m c n es w3 hT3 hr3 (by omega)).mono ?_
  rintro e w4 ⟨ns, ⟨A4, n4, c4, rfl, hn4, hr4, hb4, hf4⟩, hN⟩
  have hNs := Lib.hid (hN.1 hz.out)
  rw [Int.toNat_natCast] at hNs
  rw [hz.out]
  obtain rfl : n = n4 := by rw [← hr4.len, hNs.out.1]
  have hG4 := hG.below hb4 hgl
  obtain ⟨k40, k41⟩ := blk2 hG4
  have hr34 := hr3.below hb4 (Nat.le_refl _)
  have hd4 := hd3.below hb4 hd3.lt
  have hbb4 := hb3.trans (hb4.mono hb3.size)
  have hs4 := hb4.size
  clear hN hb4 hr3 hd3 hb3 hT3 hG
  have hnil : OI w4 w4.heap.size (.slice none 0 0) [] := OI.nil_
  go_wp2_with (at_builtin; refine wpList_cat (B := w4.heap.size) rfl _ _ rfl rfl rfl hnil hr4 (by simp; omega) (Nat.le_refl _) ?_; intro vx w5 hx0 hb5 hg5)
  obtain ⟨Ax, nx, cx, rfl, hnx, hncx, _, hrx⟩ := hx0.form
  simp only [List.nil_append] at hx0 hnx hrx
  obtain rfl : n = nx := by rw [hnx, hr4.len]
  have hwB : RI w4 AB mB by_ := RI.below hB hbb4 (Nat.le_refl _)
  have hnl := hr4.len
  clear hg5 hnil hnx hrx hB
  go_loopw [10] (fun i wr => ∃ (k : Nat) (xs : List Int), k ≤ n ∧ i = .int .i64 k ∧ OI wr w4.heap.size (.slice Ax n cx) xs ∧ Hid (xs.length = n) ∧ Below w4.heap.size w4 wr) (fun i _ => n - (intOf i).toNat)
  case atStart => exact ⟨0, ns, Nat.zero_le _, rfl, hx0, Lib.hid hnl, hb5⟩
  case round =>
    obtain ⟨k, xs, hk, rfl, hx, hxl, hbw⟩ := hrel
    clear hx0 hb5 hnl
    by_cases h1 : k < mB
    by_cases h2 : k < n
    · obtain ⟨g, rfl, -, hnc, hgB, hgl, hcx, hfx, hset⟩ := hx.slot (i := k) (by rw [hxl.out]; exact h2)
      have hwBr := RI.below hwB hbw (Nat.le_refl _)
      obtain ⟨ad, y, rfl, hy, hcy⟩ := hwBr.get h1
      have i0 : (0 : Int) ≤ (k : Int) := Int.natCast_nonneg _
      generalize xs.getD k 0 = X at *
      go_wp2_with fail
      go_region_with (go_at_call 22; refine (mkmod_any y 3 _ (by omega) (by omega)).mono ?_; rintro e w6 ⟨rfl, rfl⟩)
      all_goals go_wp2_with fail
      all_goals
        go_roundw
        case rel => exact ⟨k + 1, _, by omega, by go_num, (hset _).drew, Lib.hid (by rw [List.length_set]; exact hxl.out), (hbw.setCell hgB _).drew⟩
        case measure => simp [intOf]; omega
    all_goals
      have hG5 := hG4.below hbw hG4.lt
      obtain ⟨k50, k51⟩ := blk2 hG5
      have hr35 := hr34.below hbw (Nat.le_refl _)
      have hr45 := RI.below hr4 hbw (Nat.le_refl _)
      have hd5 := hd4.below hbw hd4.lt
      have hbb5 := hbb4.trans (hbw.mono hbb4.size)
      have hs5 := hbw.size
      have hT5 := hT.keep hbb5
      obtain ⟨_, nx', cx', hvx, hnx', _, _, hrx⟩ := hx.form
      injection hvx with hvx1 hvx2 hvx3
      subst hvx1 hvx2 hvx3
      have hfx := hx.fresh hnx'
      clear hnx' hG4 k40 k41 hr34 hr4 hd4 hbb4 hwB hx hbw
      go_wp2_with fail
      refine (cOrder_any A m c n es wr hT5 hr35 (by omega)).mono ?_
      rintro e w6 ⟨o, ⟨A6, n6, c6, rfl, hn6, hr6, hb6, hf6⟩, ho⟩
      have hO := ho.1 hz.out
      rw [Int.toNat_natCast] at hO
      have hPer : Hid (Per o n) := Lib.hid ⟨hO.2, (ps_range hO.1).1, (ps_range hO.1).2⟩
      rw [hz.out]
      have hG6 := hG5.below hb6 hG5.lt
      obtain ⟨k60, k61⟩ := blk2 hG6
      have hr36 := hr35.below hb6 (Nat.le_refl _)
      have hr46 := RI.below hr45 hb6 (Nat.le_refl _)
      have hrx6 := RI.below hrx hb6 (Nat.le_refl _)
      have hd6 := hd5.below hb6 hd5.lt
      have hbb6 := hbb5.trans (hb6.mono hbb5.size)
      have hs6 := hb6.size
      clear ho hO hG5 k50 k51 hr35 hr45 hrx hd5 hbb5 hT5 hb6
      go_wp2_with fail
      refine (next_any w.heap.size 2 w6 hd6 (by omega)).mono ?_
      rintro e w7 ⟨z, rfl, hz0, hz1, -, hd7, hg7⟩
      replace hz1 := hz1 (by omega)
      have hs7 := hg7.size
      have hlt6 : w.heap.size < w6.heap.size := by omega
      have hlt7 : w.heap.size < w7.heap.size := by omega
      have hr37 := hr36.kept hg7 hA0.out
      have hr67 := RI.kept hr6 hg7 (fun ad h e => by have := hf6 ad h; injection e with e; omega)
      have hr47 := RI.kept hr46 hg7 (fun ad h e => by have := hf4 ad h; injection e with e; omega)
      have hrx7 := RI.kept hrx6 hg7 (fun ad h e => by have := hfx ad h; injection e with e; omega)
      have hG7 := hG6.grown hg7 (by simp; omega)
      obtain ⟨k70, k71⟩ := blk2 hG7
      have hbb7 := hbb6.trans (grown_is_below hg7 (Nat.le_refl _) (Nat.le_of_lt hlt6))
      clear hr36 hr6 hr46 hrx6 hG6 k60 k61 hbb6 hd6 hg7
      by_cases hzz : z = 0
      case' pos =>
        have hz1' : (z == 0) = true := by rw [beq_iff_eq]; exact hzz
        clear hzz
        go_wp2_with fail
        refine (mkorder_any w.heap.size n w7 hd7 (by omega)).mono ?_
        rintro e w8 ⟨o2, A8, n8, c8, rfl, hn8, ho8, hr8, hf8, -, hg8⟩
        have hs8 := hg8.size
        have hr38 := hr37.kept hg8 hA0.out
        have hr48 := RI.kept hr47 hg8 (fun ad h e => by have := hf4 ad h; injection e with e; omega)
        have hrx8 := RI.kept hrx7 hg8 (fun ad h e => by have := hfx ad h; injection e with e; omega)
        have hG8 := hG7.grown hg8 (by simp; omega)
        have hbb8 := hbb7.trans (grown_is_below hg8 (Nat.le_refl _) (Nat.le_of_lt hlt7))
        have hPer8 : Hid (Per o2 n) := Lib.hid (ord_per ho8)
        clear hr37 hr67 hr47 hrx7 hG7 k70 k71 hbb7 hd7 hg8 ho8 hPer hz1' hn6
      case' neg =>
        have hz1' : (z == 0) = false := by rw [beq_eq_false_iff_ne]; exact hzz
        clear hzz
        have hr38 := hr37
        have hr8 := hr67
        have hr48 := hr47
        have hrx8 := hrx7
        have hG8 := hG7
        have hbb8 := hbb7
        have hPer8 := hPer
        have hn8 := hn6
        clear hr37 hr67 hr47 hrx7 hG7 k70 k71 hbb7 hd7 hPer hn6
      all_goals
        obtain ⟨k80, k81⟩ := blk2 hG8
        have hT8 := hT.keep hbb8
        go_wp2_with fail
        refine (cCheck_any A m c n es _ _ _ _ _ _ _ _ _ hT8 hr38 (by omega) hrx8 hr8 hn8 (by have := hr8.len; have := hPer8.out.1; omega)).mono ?_
        rintro e w9 ⟨x, rfl, hx, hb9⟩
        have hr49 := RI.below hr48 hb9 (Nat.le_refl _)
        have hrx9 := RI.below hrx8 hb9 (Nat.le_refl _)
        have hbb9 := hbb8.trans (hb9.mono hbb8.size)
        clear hr38 hr8 hr48 hrx8 hG8 k80 k81 hbb8 hT8 hb9
        by_cases hx0 : x = 0
        · have hok := isChk_zero hx hx0 hz.out hxl.out hPer8.out
          have heq := nums_unique (ok_nums (fun v => nbG_irr v) (fun v x hvx => nbG_range hz.out hvx) hPer8.out hxl.out hok) hNs.out
          subst heq
          subst hx0
          clear hx hok hPer8 hxl hNs
          go_wp2_with fail
          refine (same_any _ _ _ _ _ _ _ _ _ hrx9 (by omega) hr49 (by omega)).mono ?_
          rintro e w10 ⟨rfl, q, hw10⟩
          have e1 : decide (xs = xs) = true := by simp
          rw [e1]
          have hbb10 : Below w.heap.size w w10 := by rw [hw10]; exact below_drewN hbb9 q
          have hT10 := hT.keep hbb10
          clear hw10 hbb9 hr49 hrx9 e1
          go_wp2_with fail
          refine (awake_any _ hT10).mono ?_
          rintro e w11 ⟨rfl, hb11⟩
          have hbb11 := hbb10.trans (hb11.mono hbb10.size)
          clear hb11 hbb10 hT10
          go_wp2_with fail
          go_ret
          exact ⟨rfl, hbb11⟩
        · have e1 : (x != 0) = true := by rw [bne_iff_ne]; exact hx0
          have hT9 := hT.keep hbb9
          clear hx hx0 hPer8 hxl hNs hr49 hrx9
          go_wp2_with fail
          refine (awake_any _ hT9).mono ?_
          rintro e w11 ⟨rfl, hb11⟩
          have hbb11 := hbb9.trans (hb11.mono hbb9.size)
          clear hb11 hbb9 hT9
          go_wp2_with fail
          go_ret
          exact ⟨rfl, hbb11⟩
end Go.Proofs.YtciehcageghggaaDoor
