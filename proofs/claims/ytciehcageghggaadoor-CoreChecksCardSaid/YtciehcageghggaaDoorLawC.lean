/- The law CoreChecks: its walk. -/
import Derived.Test.YtciehcageghggaaDoorLawN
import Derived.Test.YtciehcageghggaaDoorChkM
import Derived.Test.YtciehcageghggaaDoorPre
set_option linter.unusedVariables false
namespace Go.Proofs.YtciehcageghggaaDoor
open Go.RowKit CoBit

/-- A list of k slices of numbers in memory. -/
def SL (w : World) (ad : Addr) (k b : Nat) : Prop := ∀ j, j < k → ∃ (A : Option Addr) (n c : Nat) (xs : List Int), w.cell? (ad.add j) = some (.slice A n c) ∧ n ≤ c ∧ RI w A n xs ∧ n ≤ b
theorem SL.below {w w' : World} {ad : Addr} {k b : Nat} (h : SL w ad k b) (hb : Below w.heap.size w w') : SL w' ad k b := fun j hj => by
  obtain ⟨A, n, c, xs, h1, h2, h3, h4⟩ := h j hj
  exact ⟨A, n, c, xs, by rw [hb.cell (Lib.lt_of_cell h1)]; exact h1, h2, RI.below h3 hb (Nat.le_refl _), h4⟩
theorem sl_new {w : World} {t : TypeId} {A1 A2 A3 : Option Addr} {n1 c1 n2 c2 n3 c3 b : Nat} {x1 x2 x3 : List Int} (h1 : RI w A1 n1 x1) (k1 : n1 ≤ c1) (b1 : n1 ≤ b) (h2 : RI w A2 n2 x2) (k2 : n2 ≤ c2) (b2 : n2 ≤ b) (h3 : RI w A3 n3 x3) (k3 : n3 ≤ c3) (b3 : n3 ≤ b) :
    SL (w.alloc (.cells #[.slice A1 n1 c1, .slice A2 n2 c2, .slice A3 n3 c3] t)) ⟨w.heap.size, 0, none⟩ 3 b := by
  have hB := Blk.new w t #[.slice A1 n1 c1, .slice A2 n2 c2, .slice A3 n3 c3]
  intro j hj
  have hjj : j = 0 ∨ j = 1 ∨ j = 2 := by omega
  rcases hjj with rfl | rfl | rfl
  · exact ⟨A1, n1, c1, x1, hB.cell 0, k1, h1.alloc _, b1⟩
  · exact ⟨A2, n2, c2, x2, hB.cell 1, k2, h2.alloc _, b2⟩
  · exact ⟨A3, n3, c3, x3, hB.cell 2, k3, h3.alloc _, b3⟩

theorem Reads.low {w w6 : World} {B B6 size n : Nat} {A : Option Addr} {xs ys : List Value} (h : Reads w B size A n xs) (h6 : Reads w6 B6 size A n ys) {g : Nat} (hg : B6 ≤ g) (i : Nat) (u : Value) : Reads (w.setCell ⟨g, i, none⟩ u) B size A n xs := by
  refine ⟨h.1, fun hn => ?_⟩
  obtain ⟨ad, rfl, hb, hc⟩ := h.2 hn
  obtain ⟨ad', e, hb6, _⟩ := h6.2 hn
  injection e with e
  subst e
  refine ⟨ad, rfl, hb, fun j v hv => ?_⟩
  rw [World.cell?_setCell_other _ _ _ _ (fun e => by have h1 := congrArg Addr.block e; simp only [block_of_add] at h1; omega)]
  exact hc j v hv
theorem RI.low {w w6 : World} {A : Option Addr} {n : Nat} {xs ys : List Int} (h : RI w A n xs) (h6 : RI w6 A n ys) {g : Nat} (hg : w6.heap.size ≤ g) (i : Nat) (u : Value) : RI (w.setCell ⟨g, i, none⟩ u) A n xs := by
  have := Reads.low h h6 hg i u
  unfold RI
  rwa [World.size_setCell]
theorem Reads.keptLow {w w' w6 : World} {B B' B6 size n : Nat} {A : Option Addr} {xs ys : List Value} {g : Nat} (h : Reads w B size A n xs) (h6 : Reads w6 B6 size A n ys) (hg : w.grownBy w' (some g)) (hB : B6 ≤ g) (hB1 : B6 ≤ w.heap.size) (hB2 : B ≤ B') : Reads w' B' size A n xs := by
  refine ⟨h.1, fun hn => ?_⟩
  obtain ⟨ad, rfl, hb, hc⟩ := h.2 hn
  obtain ⟨ad', e, hb6, _⟩ := h6.2 hn
  injection e with e
  subst e
  exact ⟨ad, rfl, by omega, fun j u hu => (World.cell?_of_block (hg.block (ad.add j).block (by rw [block_of_add]; omega) (by rw [block_of_add]; intro e; injection e with e; omega))).trans (hc j u hu)⟩
theorem RI.keptLow {w w' w6 : World} {A : Option Addr} {n : Nat} {xs ys : List Int} {g : Nat} (h : RI w A n xs) (h6 : RI w6 A n ys) (hg : w.grownBy w' (some g)) (hB : w6.heap.size ≤ g) (hB1 : w6.heap.size ≤ w.heap.size) : RI w' A n xs := Reads.keptLow h h6 hg hB hB1 hg.size
theorem RE.low {w w6 : World} {A : Option Addr} {n : Nat} {xs ys : List (Int × Int)} (h : RE w A n xs) (h6 : RE w6 A n ys) {g : Nat} (hg : w6.heap.size ≤ g) (i : Nat) (u : Value) : RE (w.setCell ⟨g, i, none⟩ u) A n xs := by
  have := Reads.low h h6 hg i u
  unfold RE
  rwa [World.size_setCell]

set_option maxRecDepth 100000 in
set_option maxHeartbeats 2000000 in
theorem lawChecks_any (AN : Option Addr) (mN cN : Nat) (lN : List Int) (AO : Option Addr) (mO cO : Nat) (lO : List Int) (A0 : Option Addr) (m0 c0 : Nat) (l : List Int) (w : World) (hT : Tab w) (hN0 : RI w AN mN lN) (hNc : mN ≤ cN) (hmN : mN ≤ 17592186044416) (hO0 : RI w AO mO lO) (hOc : mO ≤ cO) (hmO : mO ≤ 17592186044416) (h0 : RI w A0 m0 l) (hmc : m0 ≤ c0) (hm0 : m0 ≤ 1152921504606846976) :
    Calls Tryd.prog 3 #[.slice AN mN cN, .slice AO mO cO, .slice A0 m0 c0] w fun e w' => e = .returned (.bool true) ∧ Below w.heap.size w w' := by
  by_cases h100 : 100 < mN + mO
  · have h100' : (100 : Int) < (mN : Int) + (mO : Int) := by omega
    go_enter Tryd.func3, Tryd.ntmps3
    go_wp2_with fail
    refine (awake_any _ hT).mono ?_
    rintro e w1 ⟨rfl, hb1⟩
    go_wp2_with fail
    go_ret
    exact ⟨rfl, hb1⟩
  · have h100' : ¬ (100 : Int) < (mN : Int) + (mO : Int) := by omega
    go_enter Tryd.func3, Tryd.ntmps3
    go_wp2_with fail
    refine (new_any A0 m0 c0 l w h0 hmc hm0).mono ?_
    rintro e w1 ⟨rfl, hd1, hb1, hs1⟩
    go_wp2_with fail
    refine (mkgraph_any _ 8 _ hd1 (by omega)).mono ?_
    rintro e w2 ⟨n, es, A, m, c, rfl, hmcc, hr2, hf2, hsrt, hn9, hd2, hg2⟩
    have hz := Lib.hid (chk_of_srt hsrt (by omega) (by omega))
    have hlen : m ≤ 64 := by
      have h1 := srt_len hsrt
      have h2 := hr2.len
      have h3 : n * n ≤ 8 * 8 := Nat.mul_le_mul hn9 hn9
      omega
    have hb2 : Below w.heap.size w w2 := hb1.grown hg2 (by omega) (fun k hk => by injection hk with hk; omega)
    have hs2 := hb2.size
    have hA0 : Hid (∀ ad, A = some ad → some ad.block ≠ some w.heap.size) := Lib.hid fun ad h e => by have := hf2 ad h; injection e with e; omega
    clear hs1 hb1 hf2 hg2 h0
    go_wp2_with fail
    generalize hw3 : w2.alloc (.cells #[.int .i64 n, .slice A m c] 28) = w3
    have hG : Blk w3 w2.heap.size 28 #[.int .i64 n, .slice A m c] := hw3 ▸ Blk.new w2 _ _
    have hr3 : RE w3 A m es := hw3 ▸ hr2.alloc _
    have hd3 : Dk w3 w.heap.size := hw3 ▸ hd2.alloc _
    have hb3 : Below w.heap.size w w3 := hw3 ▸ hb2.alloc hs2 _
    have hdl := hd2.lt
    clear hw3 hr2 hd2 hb2
    generalize w2.heap.size = gg at *
    have hgl := hG.lt
    refine (rNumbers_any A m c n es w3 hr3 (by omega)).mono ?_
    rintro e w4 ⟨ns, ⟨A4, n4, c4, rfl, hn4, hr4, hb4, hf4⟩, hN⟩
    have hNs := Lib.hid (hN.1 hz.out)
    rw [Int.toNat_natCast] at hNs
    rw [hz.out]
    obtain rfl : n = n4 := by rw [← hr4.len, hNs.out.1]
    have hG4 := hG.below hb4 hgl
    obtain ⟨k40, k41⟩ := blk2 hG4
    have hr34 := hr3.below hb4 (Nat.le_refl _)
    have hd4 := hd3.below hb4 hd3.lt
    have hbb4 := hb3.trans (hb4.mono hb3.size)
    have hs4 := hb4.size
    clear hN hb4 hr3 hd3 hb3 hG
    go_wp2_with fail
    refine (rOrder_any A m c n es w4 hr34 (by omega)).mono ?_
    rintro e w5 ⟨o, ⟨A5, n5, c5, rfl, hn5, hr5, hb5, hf5⟩, ho⟩
    have hO := ho.1 hz.out
    rw [Int.toNat_natCast] at hO
    have hPer : Hid (Per o n) := Lib.hid ⟨hO.2, (ps_range hO.1).1, (ps_range hO.1).2⟩
    have hok := Lib.hid (chk_ok hNs.out hO.1 hO.2)
    rw [hz.out]
    obtain rfl : n = n5 := by rw [← hr5.len, hO.2]
    have hG5 := hG4.below hb5 hG4.lt
    obtain ⟨k50, k51⟩ := blk2 hG5
    have hr35 := hr34.below hb5 (Nat.le_refl _)
    have hr45 := RI.below hr4 hb5 (Nat.le_refl _)
    have hd5 := hd4.below hb5 hd4.lt
    have hbb5 := hbb4.trans (hb5.mono hbb4.size)
    have hs5 := hb5.size
    have hT5 := hT.keep hbb5
    clear ho hO hb5 hr34 hr4 hd4 hbb4 hG4 k40 k41
    go_wp2_with fail
    refine (cCheck_any A m c n es A4 n c4 ns A5 n c5 o w5 hT5 hr35 (by omega) hr45 hr5 hn5 (by omega)).mono ?_
    rintro e w6 ⟨x, rfl, hx, hb6⟩
    have hx0 : x = 0 := by
      rcases hx.2.2 hz.out (by rw [hNs.out.1]) (per_ordI hPer.out) with ⟨h, _⟩ | ⟨_, h⟩
      · exact h
      · exact absurd hok.out h
    subst hx0
    have hG6 := hG5.below hb6 hG5.lt
    obtain ⟨k60, k61⟩ := blk2 hG6
    have hr36 := hr35.below hb6 (Nat.le_refl _)
    have hr46 := RI.below hr45 hb6 (Nat.le_refl _)
    have hr56 := RI.below hr5 hb6 (Nat.le_refl _)
    have hd6 := hd5.below hb6 hd5.lt
    have hbb6 := hbb5.trans (hb6.mono hbb5.size)
    have hs6 := hb6.size
    clear hx hb6 hr35 hr45 hr5 hd5 hbb5 hG5 k50 k51 hT5 hok
    go_wp2_with fail
    obtain ⟨i0, hi0, hz0, hz1, hz2⟩ := info_parts int_info
    have hnil : w6.drew.ownsRow w6.heap.size 3 1 (.slice none 0 0) 0 [] := World.ownsRow_nil _ _ _ _
    have hone := ints_one ns
    have tok1 : True := trivial
    have hwl : w.heap.size < w6.heap.size := by omega
    go_region_held3 (fun w' => w'.cell? ⟨gg, 0, none⟩ = some (.int .i64 n))
      ((first | (rw [kc8]; assumption) | (rw [kc7]; assumption) | (go_keep; done)))
      ((first | (have _t := tok1; refine step_append_any w6.drew (by rfl) (.const (.slice none 0 0)) (.tmp 51) 22 (by rfl) w6.heap.size 3 i0 _ 1 8 Tryd.underlying22 hi0 hz0 hz1 hz2 rfl (by omega) (.slice none 0 0) 0 [] (by rfl) hnil _ A4 n c4 (ints ns) (by rfl) hr46 hone (by unfold maxLen; omega) (by omega) (Nat.le_refl _) ?_; intro vx w7 hx7 hg7 hat7; clear tok1 _t; have kc7 : ∀ o, w7.cell? ⟨gg, o, none⟩ = w6.cell? ⟨gg, o, none⟩ := fun o => hg7.block_cell ⟨gg, o, none⟩ hG6.lt (by simp [Value.ownBlock]); have hd7 : Dk w7 w.heap.size := hd6.drew.grown hg7 (fun k h => by simp [Value.ownBlock] at h); have hs67 : w6.heap.size ≤ w7.heap.size := hg7.size) | (go_at_call 15; refine (mkorder_any w.heap.size n _ hd7 (by omega)).mono ?_; rintro e w8 ⟨o2, A8, n8, c8, rfl, hn8, ho8, hr8, hf8, hd8, hg8⟩; have kc8 : ∀ o, w8.cell? ⟨gg, o, none⟩ = w7.cell? ⟨gg, o, none⟩ := fun o => hg8.block_cell ⟨gg, o, none⟩ (by have := hG6.lt; simp; omega) (by simp; omega))))
    have hb67 : Below w6.heap.size w6 w7 := ((Below.refl _ _).drew).trans (grown_none_below hg7 w6.heap.size (Nat.le_refl _))
    have hs78 : w7.heap.size ≤ w8.heap.size := hg8.size
    have hx8 : OI w8 w6.heap.size vx ns := by
      have h1 : OI w7 w6.heap.size vx ns := by
        unfold OI
        rw [hNs.out.1]
        simpa using hx7
      exact h1.kept hg8 (.inr (fun e => by have := (h1.block_lt _ e).1; omega))
    obtain ⟨Ax, nx, cx, rfl, hnx, hncx, -, hrx⟩ := hx8.form
    obtain rfl : n = nx := by rw [hnx, hNs.out.1]
    have hfx := hx8.fresh hnx
    have hb78 : Below w.heap.size w7 w8 := grown_is_below hg8 (Nat.le_refl _) (by omega)
    have hbb8 := (hbb6.trans (hb67.mono (by omega))).trans hb78
    have hG8 := (hG6.below hb67 hG6.lt).grown hg8 (by simp; omega)
    have hr38 := (hr36.below hb67 (Nat.le_refl _)).kept hg8 hA0.out
    have hr48 := (RI.below hr46 hb67 (Nat.le_refl _)).kept hg8 (fun ad h e => by have := hf4 ad h; injection e with e; omega)
    have hr58 := (RI.below hr56 hb67 (Nat.le_refl _)).kept hg8 (fun ad h e => by have := hf5 ad h; injection e with e; omega)
    have hn8' : n8 ≤ 8 := by have := hr8.len; have := ho8.1; omega
    have hs8 := hbb8.size
    have hxl := Lib.hid hNs.out.1
    have hg6 := hG6.lt
    have hx7b : ∀ g, Ax = some ⟨g, 0, none⟩ → g < w7.heap.size := fun g e => by
      subst e
      exact (World.ownsRow.lt hx7 g rfl).2
    have hN6 : RI w6 AN mN lN := RI.below hN0 hbb6 (Nat.le_refl _)
    have hO6 : RI w6 AO mO lO := RI.below hO0 hbb6 (Nat.le_refl _)
    have hN8 : RI w8 AN mN lN := RI.below hN0 hbb8 (Nat.le_refl _)
    have hO8 : RI w8 AO mO lO := RI.below hO0 hbb8 (Nat.le_refl _)
    replace hx7b := Lib.hid hx7b
    clear hx7 hg7 hat7 hg8 kc7 kc8 hG6 hd6 hd7 hbb6 hb67 hb78 k60 k61 hnil hone hnx ho8 hNs
    clear hPer
    have tok1 : True := trivial
    by_cases hpos : 0 < n
    case' pos =>
      obtain ⟨gx, rfl, -, -, hgB, hgl8, -⟩ := hx8.slot (i := 0) (by rw [hxl.out]; exact hpos)
      have hne : ¬ gx = w.heap.size := by omega
      have hgx7 := hx7b.out gx rfl
      clear hx7b
      go_wp2_with fail
      go_region_with ((first | (have _t := tok1; go_at_call 16; refine (next_any w.heap.size (n : Int) _ (by first | exact hd8 | exact hd8.drew | exact hd8.drewN _) (by omega)).mono ?_; rintro e w9 ⟨y, rfl, y0, y1, -, hd9, hg9⟩; clear tok1 _t; replace y1 := y1 (by omega); obtain ⟨i, rfl⟩ := Int.eq_ofNat_of_zero_le y0; have hx9 := OI.kept (OI.drew hx8) hg9 (.inr (fun e => by simp [Value.ownBlock] at e; omega)); obtain ⟨g', e', -, -, -, hgl9, hcx9, hfx9, hset9⟩ := hx9.slot (i := i) (by rw [hxl.out]; omega); injection e' with e'; injection e' with e'; subst e') | (go_at_call 16; refine (next_any w.heap.size 3 _ (by first | exact hd9 | exact hd9.drew | exact hd9.drewN _) (by omega)).mono ?_; rintro e w10 ⟨z, rfl, z0, z1, -, hd10, hg10⟩; replace z1 := z1 (by omega); have hx10 := OI.kept (by first | exact hx9 | exact OI.drew hx9 | exact OI.drewN hx9 _) hg10 (.inr (fun e => by simp [Value.ownBlock] at e; omega)); obtain ⟨g', e', -, -, -, hgl10, hcx10, hfx10, hset10⟩ := hx10.slot (i := i) (by rw [hxl.out]; omega); injection e' with e'; injection e' with e'; subst e')))
      all_goals
        have hs9 : w8.heap.size ≤ w9.heap.size := hg9.size
        have hs10 : w9.heap.size ≤ w10.heap.size := hg10.size
        have hgg : w8.grownBy w10 (some w.heap.size) := by
          first
            | exact grown_trans (grown_trans ((World.grownBy.refl w8 _)) (⟨hg9.os, hg9.tape, hg9.output, hg9.size, hg9.block⟩)) (⟨hg10.os, hg10.tape, hg10.output, hg10.size, hg10.block⟩)
        have hGz := (hG8.grown hgg (by simp; omega)).far (p := ⟨gx, i, none⟩) (by simp; omega) (.int .i64 (IntKind.i64.wrap (ns[i]?.getD 0 + IntKind.i64.wrap (z - 1))))
        have hr3z := (hr38.kept hgg hA0.out).low hr36 hgB i (.int .i64 (IntKind.i64.wrap (ns[i]?.getD 0 + IntKind.i64.wrap (z - 1))))
        have hr4z := (hr48.kept hgg (fun ad h e => by have := hf4 ad h; injection e with e; omega)).low hr46 hgB i (.int .i64 (IntKind.i64.wrap (ns[i]?.getD 0 + IntKind.i64.wrap (z - 1))))
        have hr5z := (hr58.kept hgg (fun ad h e => by have := hf5 ad h; injection e with e; omega)).low hr56 hgB i (.int .i64 (IntKind.i64.wrap (ns[i]?.getD 0 + IntKind.i64.wrap (z - 1))))
        have hr8z := RI.set (hr8.kept hgg (fun ad h e => by have := hf8 ad h; injection e with e; omega)) hf8 i hgx7 (.int .i64 (IntKind.i64.wrap (ns[i]?.getD 0 + IntKind.i64.wrap (z - 1))))
        have hNz := (hN8.keptLow hN0 hgg (Nat.le_refl _) hs8).low hN6 hgB i (.int .i64 (IntKind.i64.wrap (ns[i]?.getD 0 + IntKind.i64.wrap (z - 1))))
        have hOz := (hO8.keptLow hO0 hgg (Nat.le_refl _) hs8).low hO6 hgB i (.int .i64 (IntKind.i64.wrap (ns[i]?.getD 0 + IntKind.i64.wrap (z - 1))))
        have hbz := (hbb8.trans (grown_is_below hgg (Nat.le_refl _) hs8)).setCell (p := ⟨gx, i, none⟩) (by simp; omega) (.int .i64 (IntKind.i64.wrap (ns[i]?.getD 0 + IntKind.i64.wrap (z - 1))))
        obtain ⟨xz, hrxz⟩ : ∃ xz, RI (w10.setCell ⟨gx, i, none⟩ (.int .i64 (IntKind.i64.wrap (ns[i]?.getD 0 + IntKind.i64.wrap (z - 1))))) (some ⟨gx, 0, none⟩) n xz := by
          obtain ⟨_, _, _, e1, hnn, _, _, hrr⟩ := (hset10 (IntKind.i64.wrap (ns[i]?.getD 0 + IntKind.i64.wrap (z - 1)))).form
          injection e1 with e1 e2 e3
          subst e1 e2 e3
          exact ⟨_, hrr⟩
        clear hset9 hset10 hcx9 hcx10 hfx9 hfx10 hd8 hd9 hd10 hg9 hg10 hx8 hx9 hx10 hgg hG8 hr38 hr48 hr58 hr8 hN8 hO8 hbb8
        generalize w10.setCell ⟨gx, i, none⟩ (.int .i64 (IntKind.i64.wrap (ns[i]?.getD 0 + IntKind.i64.wrap (z - 1)))) = W at *
        go_wp2_with fail
        generalize (some ⟨gx, 0, none⟩ : Option Addr) = Ax at *
    case' neg =>
      have hGz := hG8
      have hr3z := hr38
      have hr4z := hr48
      have hr5z := hr58
      have hr8z := hr8
      have hNz := hN8
      have hOz := hO8
      have hbz := hbb8
      obtain ⟨xz, hrxz⟩ : ∃ xz, RI w8 Ax n xz := ⟨_, hrx⟩
      clear hd8 hx8 hG8 hr38 hr48 hr58 hr8 hN8 hO8 hbb8 hx7b
      go_wp2_with fail
      generalize w8 = W at *
    all_goals
      have hSL := sl_new (t := 22) hr4z hn4 (show n ≤ 100 by omega) hrxz hncx (show n ≤ 100 by omega) hNz hNc (show mN ≤ 100 by omega)
      have hG1 := hGz.alloc (.cells #[.slice A4 n c4, .slice Ax n cx, .slice AN mN cN] 22)
      have hr31 := hr3z.alloc (.cells #[.slice A4 n c4, .slice Ax n cx, .slice AN mN cN] 22)
      have hr51 := hr5z.alloc (.cells #[.slice A4 n c4, .slice Ax n cx, .slice AN mN cN] 22)
      have hr81 := hr8z.alloc (.cells #[.slice A4 n c4, .slice Ax n cx, .slice AN mN cN] 22)
      have hO1 := hOz.alloc (.cells #[.slice A4 n c4, .slice Ax n cx, .slice AN mN cN] 22)
      have hb1 := hbz.alloc hbz.size (.cells #[.slice A4 n c4, .slice Ax n cx, .slice AN mN cN] 22)
      clear hGz hr3z hr4z hr5z hr8z hNz hOz hbz hrxz hr46 hr56 hr36 hN6 hO6 hN0 hO0
      generalize W.alloc (.cells #[.slice A4 n c4, .slice Ax n cx, .slice AN mN cN] 22) = W1 at *
      generalize (⟨W.heap.size, 0, none⟩ : Addr) = ad at *
      replace hSL := Lib.hid hSL
      have hs1 := hb1.size
      go_loopw [77] (fun i wr => ∃ j : Nat, j ≤ 3 ∧ i = .int .i64 j ∧ Below W1.heap.size W1 wr) (fun i _ => 3 - (intOf i).toNat)
      case atStart => exact ⟨0, by omega, rfl, Below.refl _ _⟩
      case round =>
        obtain ⟨j, hj, rfl, hb⟩ := hrel
        have hs11 := hb.size
        have hGr := hG1.below hb hG1.lt
        have hr3r := hr31.below hb (Nat.le_refl _)
        have hr5r := RI.below hr51 hb (Nat.le_refl _)
        have hr8r := RI.below hr81 hb (Nat.le_refl _)
        have hOr := RI.below hO1 hb (Nat.le_refl _)
        by_cases hlt : j < 3
        · obtain ⟨Bn, nn, cn, xn, kc, hnn, hrn, hbn⟩ := hSL.out.below hb j hlt
          have hSL2 := sl_new (t := 22) hr5r hn5 (show n ≤ 100 by omega) hr8r hn8 (show n8 ≤ 100 by omega) hOr hOc (show mO ≤ 100 by omega)
          have hG2 := hGr.alloc (.cells #[.slice A5 n c5, .slice A8 n8 c8, .slice AO mO cO] 22)
          have hr32 := hr3r.alloc (.cells #[.slice A5 n c5, .slice A8 n8 c8, .slice AO mO cO] 22)
          have hrn2 := hrn.alloc (.cells #[.slice A5 n c5, .slice A8 n8 c8, .slice AO mO cO] 22)
          have hb2 := hb.alloc hs11 (.cells #[.slice A5 n c5, .slice A8 n8 c8, .slice AO mO cO] 22)
          clear hGr hr3r hr5r hr8r hOr hb hrn
          have hq3 : decide ((j : Int) < 3) = true := by simp; omega
          go_wp2_with fail
          clear kc
          generalize wr.alloc (.cells #[.slice A5 n c5, .slice A8 n8 c8, .slice AO mO cO] 22) = W2 at *
          generalize (⟨wr.heap.size, 0, none⟩ : Addr) = ad2 at *
          replace hSL2 := Lib.hid hSL2
          have hs2' := hb2.size
          go_loopw [86] (fun i wr2 => ∃ k : Nat, k ≤ 3 ∧ i = .int .i64 k ∧ Below W2.heap.size W2 wr2) (fun i _ => 3 - (intOf i).toNat)
          case atStart => exact ⟨0, by omega, rfl, Below.refl _ _⟩
          case round =>
            obtain ⟨k, hk, rfl, hb⟩ := hrel
            have hs3 := hb.size
            have hbo := hb2.trans (hb.mono hs2')
            by_cases hlt2 : k < 3
            · obtain ⟨Bo, no, co, xo, kc, hno, hro, hbo'⟩ := hSL2.out.below hb k hlt2
              have hG3 := hG2.below hb hG2.lt
              have hr33 := hr32.below hb (Nat.le_refl _)
              have hrn3 := RI.below hrn2 hb (Nat.le_refl _)
              have hT3 := hT.keep (hb1.trans (hbo.mono hs1))
              have hGl3 := hG3.lt
              obtain ⟨k1, k2⟩ := blk2 hG3
              have hbw0 := Lib.hid (fun (w9 : World) (h : Below wr.heap.size wr w9) => hb.trans (h.mono hs3))
              clear hb
              go_wp2_with fail
              clear kc
              have hkc : Hid True := Lib.hid trivial
              go_region_held3 (fun w' => w'.cell? ⟨gg, 0, none⟩ = some (.int .i64 n) ∧ w'.cell? ⟨gg, 1, none⟩ = some (.slice A m c))
                ((first | (go_split_ands; refine ⟨?_, ?_⟩ <;> (rw [kc8]; assumption)) | (go_split_ands; refine ⟨?_, ?_⟩ <;> (rw [kc7]; assumption)) | ((repeat' apply And.intro) <;> (go_keep; done))))
                ((first | (go_at_call 14; refine (cCheck_any A m c n es Bn nn cn xn Bo no co xo _ (by first | exact hT3 | exact hT3.drewN _) (by first | exact hr33 | exact hr33.drewN _) (by omega) (by first | exact hrn3 | exact hrn3.drewN _) (by first | exact hro | exact hro.drewN _) hno (by omega)).mono ?_; rintro e w7 ⟨x, rfl, hx, hb7⟩; have kc7 : ∀ o, w7.cell? ⟨gg, o, none⟩ = wr.cell? ⟨gg, o, none⟩ := fun o => hb7.cell (p := ⟨gg, o, none⟩) hGl3; replace hx := Lib.hid hx) | (go_at_call 17; refine (rCheck_any A m c n es Bn nn cn xn Bo no co xo _ (RE.below (hr33.drewN 1) hb7 (Nat.le_refl _)) (by omega) (RI.below (hrn3.drewN 1) hb7 (Nat.le_refl _)) (RI.below (hro.drewN 1) hb7 (Nat.le_refl _)) hno (by omega)).mono ?_; rintro e w8 ⟨y, rfl, hy, hb8⟩; have kc8 : ∀ o, w8.cell? ⟨gg, o, none⟩ = w7.cell? ⟨gg, o, none⟩ := fun o => hb8.cell (p := ⟨gg, o, none⟩) (by have := hb7.size; simp at this ⊢; omega); replace hy := Lib.hid hy)))
              obtain rfl := isChk_unique hx.out hy.out
              have hs7 : wr.heap.size ≤ w7.heap.size := hb7.size
              have hbw : Below W2.heap.size W2 w8 := hbw0.out _ (((Below.refl _ _).drew).trans (hb7.trans (hb8.mono hs7)))
              clear hb7 hb8 kc7 kc8 hx hy hrn3 hr33 hro hG3 hT3 hkc k1 k2 hbw0
              go_wp2_with fail
              go_roundw
              case rel => exact ⟨k + 1, by omega, by go_num, hbw⟩
              case measure => simp [intOf]; omega
            · clear hb
              go_wp2_with fail
              go_roundw
              case rel => exact ⟨j + 1, by omega, by go_num, hbo⟩
              case measure => simp [intOf]; omega
        · have hSL3 := sl_new (t := 22) hr5r hn5 (show n ≤ 100 by omega) hr8r hn8 (show n8 ≤ 100 by omega) hOr hOc (show mO ≤ 100 by omega)
          have hG2 := hGr.alloc (.cells #[.slice A5 n c5, .slice A8 n8 c8, .slice AO mO cO] 22)
          have hr32 := hr3r.alloc (.cells #[.slice A5 n c5, .slice A8 n8 c8, .slice AO mO cO] 22)
          have hb2 := (hb1.trans (hb.mono hs1)).alloc (by omega) (.cells #[.slice A5 n c5, .slice A8 n8 c8, .slice AO mO cO] 22)
          clear hGr hr3r hr5r hr8r hOr hb hG1 hr31 hr51 hr81 hO1 hb1
          go_wp2_with fail
          generalize wr.alloc (.cells #[.slice A5 n c5, .slice A8 n8 c8, .slice AO mO cO] 22) = W2 at *
          generalize (⟨wr.heap.size, 0, none⟩ : Addr) = ad2 at *
          replace hSL3 := Lib.hid hSL3
          have hs2' := hb2.size
          go_loopw [106] (fun i wr => ∃ k : Nat, k ≤ 3 ∧ i = .int .i64 k ∧ Below W2.heap.size W2 wr) (fun i _ => 3 - (intOf i).toNat)
          case atStart => exact ⟨0, by omega, rfl, Below.refl _ _⟩
          case round =>
            obtain ⟨k, hk, rfl, hb⟩ := hrel
            have hs3 := hb.size
            have hbo := hb2.trans (hb.mono hs2')
            have hT3 := hT.keep hbo
            by_cases hlt2 : k < 3
            · obtain ⟨Bo, no, co, xo, kc, hno, hro, hbo'⟩ := hSL3.out.below hb k hlt2
              have hG3 := hG2.below hb hG2.lt
              have hr33 := hr32.below hb (Nat.le_refl _)
              obtain ⟨k1, k2⟩ := blk2 hG3
              clear hbo
              go_wp2_with fail
              clear kc
              refine (cLater_any A m c n es Bo no co xo _ hr33 (by omega) hro hno (by omega)).mono ?_
              rintro e w7 ⟨l7, ⟨A7, n7, c7, rfl, hn7, hr7, hb7, hf7⟩, hl7⟩
              replace hl7 := Lib.hid hl7
              obtain ⟨ee, hee⟩ : ∃ ee, errL n es xo = ee := ⟨_, rfl⟩
              rw [hee]
              replace hee := Lib.hid hee
              have hG7 := hG3.below hb7 hG3.lt
              have hr37 := hr33.below hb7 (Nat.le_refl _)
              have hro7 := RI.below hro hb7 (Nat.le_refl _)
              have hbb7 := hb.trans (hb7.mono hs3)
              have hs7 := hb7.size
              obtain ⟨k3, k4⟩ := blk2 hG7
              clear hb hb7 hr33 hro hG3 k1 k2 hT3
              go_wp2_with fail
              refine (rLater_any A m c n es Bo no co xo _ hr37 (by omega) hro7 hno (by omega)).mono ?_
              rintro e w8 ⟨l8, ⟨A8', n8', c8', rfl, hn8'', hr8', hb8, hf8'⟩, hl8⟩
              obtain rfl := laterL_unique hl7.out hl8
              rw [hee.out]
              have hr78 := RI.below hr7 hb8 (Nat.le_refl _)
              have hbb8 := hbb7.trans (hb8.mono (by omega))
              have hbd : n7 ≤ 64 ∧ n8' ≤ 64 := by
                have e1 := hr78.len
                have e2 := hr8'.len
                by_cases hze : errL n es xo = 0
                · have h1 := (hl7.out.1 hze).1
                  rw [Int.toNat_natCast] at h1
                  omega
                · have h1 := hl7.out.2 hze
                  subst h1
                  simp at e1 e2
                  omega
              obtain ⟨hbd1, hbd2⟩ := hbd
              have sm := Lib.hid (same_self A7 A8' n7 c7 n8' c8' l7 w8 hr78 (by omega) hr8' (by omega))
              clear hr78 hr8' hb8 hbb7 hr7 hr37 hro7 hG7 k3 k4 hl8
              go_wp2_with fail
              refine sm.out.mono ?_
              rintro e w9 ⟨rfl, q, hw9⟩
              have hbb9 : Below W2.heap.size W2 w9 := by rw [hw9]; exact below_drewN hbb8 q
              clear hw9 sm hbb8
              go_wp2_with fail
              go_roundw
              case rel => exact ⟨k + 1, by omega, by go_num, hbb9⟩
              case measure => simp [intOf]; omega
            · clear hb
              go_wp2_with fail
              refine (awake_any _ hT3).mono ?_
              rintro e w7 ⟨rfl, hb7⟩
              have hbb7 := hbo.trans (hb7.mono hbo.size)
              clear hb7 hbo hT3
              go_wp2_with fail
              go_ret
              exact ⟨rfl, hbb7⟩
end Go.Proofs.YtciehcageghggaaDoor
