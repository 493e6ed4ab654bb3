/- densest.price, densest.Denser. -/
import Derived.Test.YticekkjambkifaaDoorZal
import Derived.Test.YticekkjambkifaaDoorZad
import Derived.BigRegion
set_option linter.unusedVariables false
set_option linter.unusedSimpArgs false
namespace Go.Proofs.YticekkjambkifaaDoor.Fl
open Go.RowKit Go.Proofs.YticekkjambkifaaDoor CoBit CoRat Rt

/-- The first error of a price. -/
def prcE (p q : Int) : Int := if okF p q = false then 4 else if p < 0 ∨ 1048576 < p ∨ 1048576 < q then 1 else 0
set_option maxRecDepth 100000 in
set_option maxHeartbeats 1000000 in
theorem price_any (p q : Int) (w : World) :
    Calls Tryd.prog 90 #[.agg #[.int .i64 p, .int .i64 q]] w fun e w' => e = .returned (.int .i64 (prcE p q)) ∧ Below w.heap.size w w' := by
  have kv := fun w => Rt.valid_any p q w
  have X0 := Blk.new w 36 #[.int .i64 p, .int .i64 q]
  have B0 : Below w.heap.size w (w.alloc (.cells #[.int .i64 p, .int .i64 q] 36)) := (Below.refl _ w).alloc (Nat.le_refl _) _
  have hs0 : w.heap.size < (w.alloc (.cells #[.int .i64 p, .int .i64 q] 36)).heap.size := by simp
  cases hok : okF p q with
  | false =>
    rw [hok] at kv
    have hv : prcE p q = 4 := by unfold prcE; rw [if_pos hok]
    rw [hv]
    replace kv := Lib.hid kv
    clear hv hok
    go_enter Tryd.func90, Tryd.ntmps90
    go_upto_region 1 with fail
    generalize w.alloc (.cells #[.int .i64 p, .int .i64 q] 36) = W at *
    have c0 := Blk.cell X0 0
    have c1 := Blk.cell X0 1
    simp at c0 c1
    go_wp2_with (first | (go_at_call 113; (with_reducible refine (kv.out _).mono ?_); rintro e w1 ⟨rfl, hb1⟩) | fail)
    go_ret
    exact ⟨rfl, B0.trans (hb1.mono B0.size)⟩
  | true =>
    rw [hok] at kv
    have hf : ¬ (okF p q = false) := by rw [hok]; decide
    replace kv := Lib.hid kv
    go_enter Tryd.func90, Tryd.ntmps90
    go_upto_region 1 with fail
    generalize w.alloc (.cells #[.int .i64 p, .int .i64 q] 36) = W at *
    have c0 := Blk.cell X0 0
    have c1 := Blk.cell X0 1
    simp at c0 c1
    go_upto_region 3 with (first | (go_at_call 113; (with_reducible refine (kv.out _).mono ?_); rintro e w1 ⟨rfl, hb1⟩) | fail)
    have B1 := B0.trans (hb1.mono B0.size)
    have X1 := X0.below hb1 X0.lt
    clear c0 c1 X0 hb1 kv
    have c0 := Blk.cell X1 0
    have c1 := Blk.cell X1 1
    simp at c0 c1
    by_cases h1 : p < 0
    · have hv : prcE p q = 1 := by unfold prcE; rw [if_neg hf, if_pos (.inl h1)]
      replace hv := Lib.hid hv
      clear hf hok
      go_wp2_with fail
      go_ret
      exact ⟨by rw [hv.out]; rfl, B1⟩
    · by_cases h2 : 1048576 < p
      · have hv : prcE p q = 1 := by unfold prcE; rw [if_neg hf, if_pos (.inr (.inl h2))]
        replace hv := Lib.hid hv
        clear hf hok
        go_wp2_with fail
        go_ret
        exact ⟨by rw [hv.out]; rfl, B1⟩
      · by_cases h3 : 1048576 < q
        · have hv : prcE p q = 1 := by unfold prcE; rw [if_neg hf, if_pos (.inr (.inr h3))]
          replace hv := Lib.hid hv
          clear hf hok
          go_wp2_with fail
          go_ret
          exact ⟨by rw [hv.out]; rfl, B1⟩
        · have hv : prcE p q = 0 := by unfold prcE; rw [if_neg hf, if_neg (by omega)]
          replace hv := Lib.hid hv
          clear hf hok
          go_wp2_with fail
          go_ret
          exact ⟨by rw [hv.out]; rfl, B1⟩
theorem enter_solve (args : Array Value) (w : World) : Sem.run Tryd.prog (callFunc 91 args) w = .ok (.enter 91 args) w := by
  have h1 : ¬ Tryd.f91.name = "runtime.NumGoroutine" := fun h => by
    have h2 : ( Tryd.f91.name == "runtime.NumGoroutine") = false := by kernel_rfl
    rw [h] at h2; simp at h2
  have h3 : ¬ Tryd.f91.body = none := by
    have h2 : Tryd.f91.body.isNone = false := by kernel_rfl
    intro h; rw [h] at h2; cases h2
  simp [callFunc, go_sem, Tryd.func91, h1, h3]
/-- What Denser returns for a price that is right. -/
def RetDs (w : World) (n : Nat) (es : List (Int × Int)) (p q : Nat) (e : Ending) (w' : World) : Prop := ∃ (m : Nat) (A : Option Addr) (k c : Nat), e = .returned (.tuple #[.slice A k c, .bool (decide (p * pop m < insE es (bset m) * q)), .int .i64 0]) ∧ IsMax es (List.replicate n 0) (allM n) q p m ∧ k ≤ c ∧ RI w' A k (bset m) ∧ Below w.heap.size w w'
set_option maxRecDepth 100000 in
set_option maxHeartbeats 8000000 in
theorem denser_ok (A : Option Addr) (m c n : Nat) (es : List (Int × Int)) (p q : Nat) (w : World) (h : RE w A m es) (hT : Tab w) (hm : m ≤ 4096) (hz : chkG n es = 0) (hn : n ≤ 64) (hpq : prcE p q = 0) :
    Calls Tryd.prog 50 #[.agg #[.int .i64 (n : Nat), .slice A m c], .agg #[.int .i64 (p : Nat), .int .i64 (q : Nat)]] w (RetDs w n es p q) := by
  have hel : es.length ≤ 4096 := by rw [h.len]; exact hm
  have hlim : p ≤ 1048576 ∧ q ≤ 1048576 := by
    unfold prcE at hpq
    split at hpq
    · cases hpq
    · split at hpq
      · cases hpq
      · omega
  have kc := fun w h => gcheck_any A m c n es w h (by omega)
  rw [hz] at kc
  have kpr := fun w => price_any p q w
  rw [hpq] at kpr
  replace kc := Lib.hid kc
  replace kpr := Lib.hid kpr
  have kp := Lib.hid (fun w => plain_any A m c n hn (by omega) w)
  have hpr := Lib.hid (prb_plain hz hn hel)
  have ken := enter_solve
  obtain ⟨W, hW0⟩ : ∃ W, W = (w.alloc (.cells #[.int .i64 (n : Nat), .slice A m c] 25)).alloc (.cells #[.int .i64 (p : Nat), .int .i64 (q : Nat)] 36) := ⟨_, rfl⟩
  have G0 : Blk W w.heap.size 25 #[.int .i64 (n : Nat), .slice A m c] := by rw [hW0]; exact (Blk.new' _ _ _ rfl).alloc _
  have X0 : Blk W (w.heap.size + 1) 36 #[.int .i64 (p : Nat), .int .i64 (q : Nat)] := by rw [hW0]; exact Blk.new' _ _ _ (by simp)
  have B0 : Below w.heap.size w W := by rw [hW0]; exact ((Below.refl _ w).alloc (Nat.le_refl _) _).alloc (by simp) _
  have hE0 : RE W A m es := by rw [hW0]; exact (h.alloc _).alloc _
  have hT0 := hT.keep B0
  replace hW0 := Lib.hid hW0
  clear h hT hz hpq
  go_enter Tryd.func50, Tryd.ntmps50
  go_upto_region 1 with fail
  rw [← hW0.out]
  clear hW0
  obtain ⟨d0, d1⟩ := blkG G0
  go_upto_region 2 with (first | (go_at_call 52; (with_reducible refine (kc.out _ hE0).mono ?_); rintro e w1 ⟨rfl, hb1⟩) | fail)
  have G1 := G0.below hb1 G0.lt
  have X1 := X0.below hb1 X0.lt
  have B1 := B0.trans (hb1.mono B0.size)
  have hE1 := hE0.below hb1 (Nat.le_refl _)
  have hT1 := hT0.keep hb1
  clear G0 X0 B0 hE0 hT0 hb1 kc d0 d1
  have x0 := Blk.cell X1 0
  have x1 := Blk.cell X1 1
  simp at x0 x1
  go_upto_region 4 with (first | (go_at_call 90; (with_reducible refine (kpr.out _).mono ?_); rintro e w2 ⟨rfl, hb2⟩) | fail)
  have G2 := G1.below hb2 G1.lt
  have X2 := X1.below hb2 X1.lt
  have B2 := B1.trans (hb2.mono B1.size)
  have hE2 := hE1.below hb2 (Nat.le_refl _)
  have hT2 := hT1.keep hb2
  clear G1 X1 B1 hE1 hT1 hb2 kpr x0 x1
  obtain ⟨d0, d1⟩ := blkG G2
  go_upto_region 7 with (first
    | (go_at_call 80; (with_reducible refine (kp.out _).mono ?_); intro e w3 hq; obtain ⟨WA, BA, CA, wc, bc, cc, rfl, hw3, hb3, hc3, hB3⟩ := hq)
    | fail)
  have B3 := B2.trans (hB3.mono B2.size)
  have X3 := X2.below hB3 X2.lt
  have hM3 : PM w3 A WA BA CA m n es (List.replicate n 0) := ⟨hE2.below hB3 (Nat.le_refl _), hw3, hb3, hc3, hT2.keep hB3⟩
  clear G2 X2 B2 hE2 hT2 hB3 hw3 hb3 hc3 kp d0 d1
  have B4 := B3.alloc B3.size (.cells #[.slice A m c, .slice WA m wc, .slice BA n bc, .slice CA n cc, .int .u64 (allM n : Nat), .int .u64 0] 114)
  have X4 := X3.alloc (.cells #[.slice A m c, .slice WA m wc, .slice BA n bc, .slice CA n cc, .int .u64 (allM n : Nat), .int .u64 0] 114)
  have P4 := Blk.new w3 114 #[.slice A m c, .slice WA m wc, .slice BA n bc, .slice CA n cc, .int .u64 (allM n : Nat), .int .u64 0]
  have hM4 : PM (w3.alloc (.cells #[.slice A m c, .slice WA m wc, .slice BA n bc, .slice CA n cc, .int .u64 (allM n : Nat), .int .u64 0] 114)) A WA BA CA m n es (List.replicate n 0) := hM3.below ((Below.refl _ _).alloc (Nat.le_refl _) _)
  generalize w3.alloc (.cells #[.slice A m c, .slice WA m wc, .slice BA n bc, .slice CA n cc, .int .u64 (allM n : Nat), .int .u64 0] 114) = w4 at *
  generalize w3.heap.size = gp at *
  clear B3 X3 hM3
  obtain ⟨ks⟩ : Nonempty (Hid _) := ⟨Lib.hid (solve_any A WA BA CA c wc bc cc m n (allM n) p q es (List.replicate n 0) hpr.out w4 hM4.e hM4.wt hM4.b hM4.c hlim.1 hlim.2)⟩
  have x0 := Blk.cell X4 0
  have x1 := Blk.cell X4 1
  have p0 := Blk.cell P4 0
  have p1 := Blk.cell P4 1
  have p2 := Blk.cell P4 2
  have p3 := Blk.cell P4 3
  have p4 := Blk.cell P4 4
  have p5 := Blk.cell P4 5
  simp at x0 x1 p0 p1 p2 p3 p4 p5
  go_upto_region 9 with (first
    | (go_at_call 91; (with_reducible refine ks.out.mono ?_); intro e w5 hq; obtain ⟨mm, AP, np, cp, L, S, rfl, hmin, hmk, hri, hnc, hfA, hb5⟩ := hq)
    | fail)
  have hmax := Lib.hid (cut_max hpr.out hmin hmk).1
  have hmF : ∀ v, mm.testBit v = true → v < n := fun v hv => by have := hmax.out.sub v hv; rw [allM_bit, decide_eq_true_eq] at this; exact this
  have hml := mask_lt (Nat.le_refl 64) (fun v hv => Nat.lt_of_lt_of_le (hmF v hv) hn)
  have B5 := B4.trans (hb5.mono B4.size)
  have X5 := X4.below hb5 X4.lt
  have P5 := P4.below hb5 P4.lt
  have hM5 := hM4.below hb5
  clear ks hmin hmk hri hnc hfA hb5 B4 X4 P4 hM4 x0 x1 p0 p1 p2 p3 p4 p5
  have B6 := B5.alloc B5.size (.cells #[.int .u64 (mm : Nat), .slice AP np cp] 111)
  have X6 := X5.alloc (.cells #[.int .u64 (mm : Nat), .slice AP np cp] 111)
  have P6 := P5.alloc (.cells #[.int .u64 (mm : Nat), .slice AP np cp] 111)
  have T6 := Blk.new w5 111 #[.int .u64 (mm : Nat), .slice AP np cp]
  have hM6 : PM (w5.alloc (.cells #[.int .u64 (mm : Nat), .slice AP np cp] 111)) A WA BA CA m n es (List.replicate n 0) := hM5.below ((Below.refl _ _).alloc (Nat.le_refl _) _)
  generalize w5.alloc (.cells #[.int .u64 (mm : Nat), .slice AP np cp] 111) = w6 at *
  generalize w5.heap.size = gt at *
  clear B5 X5 P5 hM5
  have kg := gain_any A WA BA CA c wc bc cc m n (allM n) mm es (List.replicate n 0) hpr.out hmF w6 hM6.e hM6.wt hM6.b hM6.c hM6.t
  rw [wtI_rep] at kg
  replace kg := Lib.hid kg
  have hwb : insE es (bset mm) ≤ 4096 := Nat.le_trans (insE_le _ _) hel
  have hpb := pop_le mm
  obtain ⟨wt, hwt⟩ : ∃ wt, wt = insE es (bset mm) := ⟨_, rfl⟩
  obtain ⟨pp, hpp⟩ : ∃ pp, pp = pop mm := ⟨_, rfl⟩
  replace kg := kg.out
  rw [← hwt, ← hpp] at kg
  rw [← hwt] at hwb
  rw [← hpp] at hpb
  replace kg := Lib.hid kg
  have hpk := Lib.hid (And.intro hwt hpp)
  have hT6 := hM6.t
  clear hwt hpp hM6 hmF
  have p0 := Blk.cell P6 0
  have p1 := Blk.cell P6 1
  have p2 := Blk.cell P6 2
  have p3 := Blk.cell P6 3
  have p4 := Blk.cell P6 4
  have p5 := Blk.cell P6 5
  have t0 := Blk.cell T6 0
  simp at p0 p1 p2 p3 p4 p5 t0
  go_upto_region 10 with (first
    | (go_at_call 92; (with_reducible refine kg.out.mono ?_); rintro e w7 ⟨rfl, hb7⟩)
    | fail)
  have B7 := B6.trans (hb7.mono B6.size)
  have X7 := X6.below hb7 X6.lt
  have T7 := T6.below hb7 T6.lt
  have hT7 := hT6.keep hb7
  clear kg hb7 B6 X6 P6 T6 hT6 p0 p1 p2 p3 p4 p5 t0
  have y0 : w7.drew.cell? ⟨gt, 0, none⟩ = some (.int .u64 (mm : Nat)) := by have := Blk.cell T7 0; simpa using this
  have y1 : w7.drew.cell? ⟨w.heap.size + 1, 0, none⟩ = some (.int .i64 (p : Nat)) := by have := Blk.cell X7 0; simpa using this
  have y2 : w7.drew.cell? ⟨w.heap.size + 1, 1, none⟩ = some (.int .i64 (q : Nat)) := by have := Blk.cell X7 1; simpa using this
  have tl := T7.lt
  have xl := X7.lt
  have m1 : wt * q ≤ 4096 * 1048576 := Nat.mul_le_mul hwb hlim.2
  have m2 : p * pp ≤ 1048576 * 64 := Nat.mul_le_mul hlim.1 hpb
  have j1 : IntKind.i64.wrap ((wt : Int) * (q : Int)) = ((wt * q : Nat) : Int) := by rw [← Int.natCast_mul]; exact IntWalk.i64_in _ ⟨by omega, by omega⟩
  have j2 : IntKind.i64.wrap ((p : Int) * (pp : Int)) = ((p * pp : Nat) : Int) := by rw [← Int.natCast_mul]; exact IntWalk.i64_in _ ⟨by omega, by omega⟩
  have kl := Lib.hid (list_any mm hml w7.drew (show Tab w7.drew from hT7))
  clear T7 X7
  go_loud (go_region_held3 (fun w' => w'.cell? ⟨gt, 0, none⟩ = some (.int .u64 (mm : Nat)) ∧ w'.cell? ⟨w.heap.size + 1, 0, none⟩ = some (.int .i64 (p : Nat)) ∧ w'.cell? ⟨w.heap.size + 1, 1, none⟩ = some (.int .i64 (q : Nat)))
    ((first | (with_reducible exact ⟨y0, y1, y2⟩) | (with_reducible exact ⟨z0, z1, z2⟩) | fail))
    ((first
      | (go_at_call 82; (with_reducible refine kl.out.mono ?_); rintro e w8 ⟨AS, ns, cs, rfl, hns, hrs, hb8, hf8⟩
         have z0 := (hb8.cell (p := ⟨gt, 0, none⟩) tl).trans y0
         have z1 := (hb8.cell (p := ⟨w.heap.size + 1, 0, none⟩) xl).trans y1
         have z2 := (hb8.cell (p := ⟨w.heap.size + 1, 1, none⟩) xl).trans y2)
      | fail)))
  have B8 := B7.drew.trans (hb8.mono B7.size)
  have hdd : Hid (decide (((p * pp : Nat) : Int) < ((wt * q : Nat) : Int)) = decide (p * pop mm < insE es (bset mm) * q)) := Lib.hid (by rw [← hpk.out.1, ← hpk.out.2]; exact decide_eq_decide.2 (by omega))
  clear kl z0 z1 z2 y0 y1 y2
  go_wp2_with fail
  refine bodyPost_ret (v := .tuple #[.slice AS ns cs, .bool (decide (((p * pp : Nat) : Int) < ((wt * q : Nat) : Int))), .int .i64 0]) (by simp [results, Tryd.results50, go_sem]) rfl ?_
  exact ⟨mm, AS, ns, cs, by rw [← hdd.out], hmax.out, hns, hrs, B8⟩
end Go.Proofs.YticekkjambkifaaDoor.Fl
