/- Printed by merge.py from DnsB, DnsE, DnsF, AwnA. -/
import Derived.Test.YticekkjambkifaaGreatDoorRsN
import Derived.Test.YticekkjambkifaaGreatDoorZad
import Derived.Test.YticekkjambkifaaGreatDoorZak
import Derived.Test.YticekkjambkifaaGreatDoorFlwF
import Derived.BigRegion
import Derived.Test.YticekkjambkifaaGreatDoorZal
import Derived.Test.YticekkjambkifaaGreatDoorZai
import Derived.Test.YticekkjambkifaaGreatDoorZrt
/- densest.Fits, loads, Loads, Bound. -/
set_option linter.unusedVariables false
set_option linter.unusedSimpArgs false
namespace Go.Proofs.YticekkjambkifaaGreatDoor.Fl
open Go.RowKit Go.Proofs.YticekkjambkifaaGreatDoor CoBit CoRat Rt

/-- A split that is valid for m edges. -/
def FitP (den : Int) (ps : List Int) : Prop := ∀ p ∈ ps, 0 ≤ p ∧ p ≤ den
instance (den : Int) (ps : List Int) : Decidable (FitP den ps) := by unfold FitP; infer_instance
def FitS (m : Nat) (den : Int) (ps : List Int) : Prop := 1 ≤ den ∧ den ≤ 1048576 ∧ ps.length = m ∧ FitP den ps
instance (m : Nat) (den : Int) (ps : List Int) : Decidable (FitS m den ps) := by unfold FitS; infer_instance
theorem enter_fit1 (args : Array Value) (w : World) : Sem.run Tryz.prog (callFunc 61 args) w = .ok (.enter 61 args) w := by
  have h1 : ¬ Tryz.f61.name = "runtime.NumGoroutine" := fun h => by
    have h2 : ( Tryz.f61.name == "runtime.NumGoroutine") = false := by kernel_rfl
    rw [h] at h2; simp at h2
  have h3 : ¬ Tryz.f61.body = none := by
    have h2 : Tryz.f61.body.isNone = false := by kernel_rfl
    intro h; rw [h] at h2; cases h2
  simp [callFunc, go_sem, Tryz.func61, h1, h3]
set_option maxHeartbeats 1000000 in
theorem fit1_any (gs : Nat) (den p : Int) (v : Value) (w : World) (hS : Blk w gs 36 #[.int .i64 den, v]) :
    Calls Tryz.prog 61 #[.int .i64 p, .pointer (some ⟨gs, 0, none⟩)] w fun e w' => e = .returned (.bool (!decide (0 ≤ p ∧ p ≤ den))) ∧ w = w' := by
  have c0 := Blk.cell hS 0
  simp at c0
  by_cases h0 : p < 0
  · have hv : (!decide (0 ≤ p ∧ p ≤ den)) = true := by rw [decide_eq_false (by omega)]; rfl
    rw [hv]
    clear hv
    go_enter Tryz.func61, Tryz.ntmps61
    go_wp2_with fail
    go_ret
    exact ⟨rfl, rfl⟩
  · by_cases h1 : den < p
    · have hv : (!decide (0 ≤ p ∧ p ≤ den)) = true := by rw [decide_eq_false (by omega)]; rfl
      rw [hv]
      clear hv
      go_enter Tryz.func61, Tryz.ntmps61
      go_wp2_with fail
      go_ret
      exact ⟨rfl, rfl⟩
    · have hv : (!decide (0 ≤ p ∧ p ≤ den)) = false := by rw [decide_eq_true (by omega)]; rfl
      rw [hv]
      clear hv
      go_enter Tryz.func61, Tryz.ntmps61
      go_wp2_with fail
      go_ret
      exact ⟨rfl, rfl⟩
set_option maxRecDepth 100000 in
set_option maxHeartbeats 2000000 in
theorem fitix_any (gs : Nat) (den : Int) (v : Value) (A : Option Addr) (n c : Nat) (ps : List Int) (w : World) (h : RI w A n ps) (hn : n ≤ 1099511627776) (hS : Blk w gs 36 #[.int .i64 den, v]) :
    Calls Tryz.prog 83 #[.slice A n c, .func (.func 61) #[] #[.pointer (some ⟨gs, 0, none⟩)]] w fun e w' => ∃ o : Int, e = .returned (.int .i64 o) ∧ (0 ≤ o ∧ ¬ FitP den ps ∨ o = -1 ∧ FitP den ps) ∧ w = w' := by
  have ke := Lib.hid fun p => fit1_any gs den p v w hS
  have ken := enter_fit1
  have hl := Lib.hid h.len
  go_enter Tryz.func83, Tryz.ntmps83
  go_wp2_with fail
  go_loopw [8] (fun i wr => ∃ k : Nat, k ≤ n ∧ i = .int .i64 k ∧ Hid (FitP den (ps.take k)) ∧ wr = w) (fun i _ => n - (intOf i).toNat)
  case atStart => exact ⟨0, Nat.zero_le _, rfl, Lib.hid (fun p hp => by simp at hp), rfl⟩
  case round =>
    obtain ⟨k, hk, rfl, hx, hw⟩ := hrel
    obtain rfl := hw.symm
    by_cases hlt : k < n
    · obtain ⟨ad, p, rfl, hp, hc⟩ := h.get hlt
      have i2 : (0 : Int) ≤ (k : Int) := Int.natCast_nonneg _
      have i3 : (k : Int) < (n : Int) := by omega
      have kk := Lib.hid (ke.out p)
      go_wp2_with fail
      (with_reducible refine kk.out.mono ?_)
      rintro e w2 ⟨rfl, hw2⟩
      obtain rfl := hw2
      by_cases hd : 0 ≤ p ∧ p ≤ den
      · rw [decide_eq_true hd]
        have hnx : Hid (FitP den (ps.take (k + 1))) := Lib.hid (by
          intro q hq
          obtain ⟨hkl, he⟩ := List.getElem?_eq_some_iff.1 hp.out
          rw [List.take_succ_eq_append_getElem hkl] at hq
          rcases List.mem_append.1 hq with hq | hq
          · exact hx.out q hq
          · rw [List.mem_singleton, he] at hq; subst hq; exact hd)
        clear hp hx
        go_wp2_with fail
        go_roundw
        case rel => exact ⟨k + 1, by omega, by go_num, hnx, by first | rfl | trivial⟩
        case measure => simp [intOf]; omega
      · rw [decide_eq_false hd]
        have hno : Hid (¬ FitP den ps) := Lib.hid (fun hf => hd (hf p (List.mem_of_getElem? hp.out)))
        clear hp hx
        go_wp2_with fail
        go_ret
        exact ⟨(k : Int), rfl, .inl ⟨i2, hno.out⟩, rfl⟩
    · have i3 : ¬ (k : Int) < (n : Int) := by omega
      have hall : Hid (FitP den ps) := Lib.hid (by
        have := hx.out
        rwa [List.take_of_length_le (by rw [hl.out]; omega)] at this)
      clear hx
      go_wp2_with fail
      go_ret
      exact ⟨-1, rfl, .inr ⟨rfl, hall.out⟩, rfl⟩
set_option maxHeartbeats 1000000 in
theorem fithas_any (gs : Nat) (den : Int) (v : Value) (A : Option Addr) (n c : Nat) (ps : List Int) (w : World) (h : RI w A n ps) (hn : n ≤ 1099511627776) (hS : Blk w gs 36 #[.int .i64 den, v]) :
    Calls Tryz.prog 60 #[.slice A n c, .func (.func 61) #[] #[.pointer (some ⟨gs, 0, none⟩)]] w fun e w' => e = .returned (.bool (!decide (FitP den ps))) ∧ w = w' := by
  have k1 := Lib.hid (fitix_any gs den v A n c ps w h hn hS)
  go_enter Tryz.func60, Tryz.ntmps60
  go_wp2_with fail
  refine k1.out.mono ?_
  rintro e w1 ⟨o, rfl, ho, hw⟩
  obtain rfl := hw
  rcases ho with ⟨ho, hf⟩ | ⟨rfl, hf⟩
  · have hb := Lib.hid (decide_eq_false hf)
    clear hf k1
    go_wp2_with fail
    go_ret
    exact ⟨by rw [hb.out]; rfl, rfl⟩
  · have hb := Lib.hid (decide_eq_true hf)
    clear hf k1
    go_wp2_with fail
    go_ret
    exact ⟨by rw [hb.out]; rfl, rfl⟩
set_option maxRecDepth 100000 in
set_option maxHeartbeats 2000000 in
theorem fits_any (A : Option Addr) (m c : Nat) (n : Int) (den : Int) (A1 : Option Addr) (k c1 : Nat) (ps : List Int) (w : World) (h1 : RI w A1 k ps) (hk : k ≤ 1099511627776) :
    Calls Tryz.prog 39 #[.agg #[.int .i64 n, .slice A m c], .agg #[.int .i64 den, .slice A1 k c1]] w fun e w' => e = .returned (.bool (decide (FitS m den ps))) ∧ Below w.heap.size w w' := by
  have hl := h1.len
  have B0 : Below w.heap.size w ((w.alloc (.cells #[.int .i64 n, .slice A m c] 24)).alloc (.cells #[.int .i64 den, .slice A1 k c1] 36)) := ((Below.refl _ w).alloc (Nat.le_refl _) _).alloc (by simp) _
  have S0 : Blk ((w.alloc (.cells #[.int .i64 n, .slice A m c] 24)).alloc (.cells #[.int .i64 den, .slice A1 k c1] 36)) (w.heap.size + 1) 36 #[.int .i64 den, .slice A1 k c1] := Blk.new' _ _ _ (by simp)
  have kf := Lib.hid (fithas_any (w.heap.size + 1) den (.slice A1 k c1) A1 k c1 ps _ ((h1.alloc (.cells #[.int .i64 n, .slice A m c] 24)).alloc (.cells #[.int .i64 den, .slice A1 k c1] 36)) hk S0)
  have hno : ∀ b : Bool, (FitS m den ps → b = true) → (¬ FitS m den ps → b = false) → decide (FitS m den ps) = b := fun b h1 h2 => by
    by_cases h : FitS m den ps
    · rw [decide_eq_true h, h1 h]
    · rw [decide_eq_false h, h2 h]
  by_cases h2 : 1 ≤ den
  · by_cases h3 : den ≤ 1048576
    · by_cases h4 : k = m
      · subst h4
        have hv : decide (FitS k den ps) = decide (FitP den ps) := decide_eq_decide.2 ⟨fun h => h.2.2.2, fun h => ⟨h2, h3, hl, h⟩⟩
        rw [hv]
        clear hv hno S0
        generalize decide (FitP den ps) = b at *
        go_enter Tryz.func39, Tryz.ntmps39
        go_wp2_with (first | (go_at_call 60; (with_reducible refine kf.out.mono ?_); rintro e w1 ⟨rfl, hw⟩; obtain rfl := hw) | fail)
        go_ret
        exact ⟨by cases b <;> rfl, B0⟩
      · have q0 : ((k : Int) == (m : Int)) = false := by rw [beq_eq_false_iff_ne]; omega
        rw [hno false (fun h => absurd (hl.symm.trans h.2.2.1) h4) (fun _ => rfl)]
        clear hno S0 kf h4
        go_enter Tryz.func39, Tryz.ntmps39
        go_wp2_with fail
        go_ret
        exact ⟨rfl, B0⟩
    · rw [hno false (fun h => absurd h.2.1 h3) (fun _ => rfl)]
      clear hno S0 kf
      go_enter Tryz.func39, Tryz.ntmps39
      go_wp2_with fail
      go_ret
      exact ⟨rfl, B0⟩
  · rw [hno false (fun h => absurd h.1 h2) (fun _ => rfl)]
    clear hno S0 kf
    go_enter Tryz.func39, Tryz.ntmps39
    go_wp2_with fail
    go_ret
    exact ⟨rfl, B0⟩
set_option maxRecDepth 100000 in
set_option maxHeartbeats 4000000 in
theorem ploads_ok (A : Option Addr) (m c : Nat) (n : Nat) (es : List (Int × Int)) (den : Int) (A1 : Option Addr) (c1 : Nat) (ps : List Int) (w : World) (h : RE w A m es) (h1 : RI w A1 m ps) (hm : m ≤ 68719476736) (hz : chkG n es = 0) (hn : n ≤ 64) (hd1 : 1 ≤ den) (hd2 : den ≤ 1048576) (hp : ∀ p ∈ ps, 0 ≤ p ∧ p ≤ den) :
    Calls Tryz.prog 40 #[.agg #[.int .i64 n, .slice A m c], .agg #[.int .i64 den, .slice A1 m c1]] w fun e w' => ∃ g : Nat, e = .returned (.slice (some ⟨g, 0, none⟩) n n) ∧ w.heap.size ≤ g ∧ AI w' g (ldL n den es ps) ∧ Below w.heap.size w w' := by
  have hel := Lib.hid h.len
  have hlt := Lib.hid (chkE_lt (chkG_zero hz).2.2)
  obtain ⟨i0, hz0, hz1, hz2, hz3⟩ := info_parts int_info
  clear hz
  have b0 : Below w.heap.size w ((w.alloc (.cells #[.int .i64 n, .slice A m c] 24)).alloc (.cells #[.int .i64 den, .slice A1 m c1] 36)) := ((Below.refl _ w).alloc (Nat.le_refl _) _).alloc (by simp) _
  have G0 := (Blk.new w 24 #[.int .i64 n, .slice A m c]).alloc (.cells #[.int .i64 den, .slice A1 m c1] 36)
  have S0 : Blk ((w.alloc (.cells #[.int .i64 n, .slice A m c] 24)).alloc (.cells #[.int .i64 den, .slice A1 m c1] 36)) (w.heap.size + 1) 36 #[.int .i64 den, .slice A1 m c1] := Blk.new' _ _ _ (by simp)
  go_enter Tryz.func40, Tryz.ntmps40
  go_upto_region 1 with fail
  generalize hw1 : (w.alloc (.cells #[.int .i64 n, .slice A m c] 24)).alloc (.cells #[.int .i64 den, .slice A1 m c1] 36) = w1 at *
  clear hw1
  have s1 := S0.lt
  obtain ⟨d0, d1⟩ := blkG G0
  go_upto_region 2 with (at_make; refine wpList_makeI rfl _ _ rfl rfl rfl (n := n) (by omega) (by omega) (by omega) ?_; intro w2 hA2 hg2)
  have hb2 := grown_none_below hg2 w1.heap.size (Nat.le_refl _)
  have G2 := G0.below hb2 G0.lt
  have S2 := S0.below hb2 S0.lt
  have B2 := b0.trans (hb2.mono b0.size)
  have sgp := b0.size
  have sgs := S0.lt
  have hs0 : LdO n den es ps 0 (List.replicate n 0) := ldO_start _ _ _ _
  clear hg2 hb2 G0 S0 d0 d1 b0
  generalize w1.heap.size = gp at *
  obtain ⟨d0, d1⟩ := blkG G2
  go_wp2_with fail
  go_loopw [14] (fun i wr => ∃ (k : Nat) (xs : List Int), k ≤ m ∧ i = .int .i64 k ∧ AI wr gp xs ∧ Hid (LdO n den es ps k xs) ∧ Blk wr (w.heap.size + 1) 36 #[.int .i64 den, .slice A1 m c1] ∧ Below w.heap.size w wr) (fun i _ => m - (intOf i).toNat)
  case atStart => exact ⟨0, _, Nat.zero_le _, rfl, hA2, Lib.hid hs0, S2, B2⟩
  case round =>
    obtain ⟨k, xs, hk, rfl, hA, hx, hS, hb⟩ := hrel
    clear hA2 hs0 S2 B2 G2 d0 d1
    by_cases hlt2 : k < m
    · have i1 : (k : Int) < (m : Int) := by omega
      have j0 : (0 : Int) ≤ (k : Int) := by omega
      obtain ⟨ad, u, v, rfl, hab, he, e0, e1⟩ := (h.below hb (Nat.le_refl _)).get hlt2
      have hr := hlt.out _ (List.mem_of_getElem? he.out)
      simp only at hr
      obtain ⟨u, rfl⟩ := Int.eq_ofNat_of_zero_le (show 0 ≤ u by omega)
      obtain ⟨v, rfl⟩ := Int.eq_ofNat_of_zero_le (show 0 ≤ v by omega)
      have huv : u < v := by omega
      have hvn : v < n := by omega
      have hgA := hA.lt
      have hgS := hS.lt
      have X1 := Blk.new wr 59 #[.int .i64 u, .int .i64 v]
      have S1 := hS.alloc (.cells #[.int .i64 u, .int .i64 v] 59)
      have A1' := hA.alloc (.cells #[.int .i64 u, .int .i64 v] 59)
      have B1 := hb.alloc hb.size (.cells #[.int .i64 u, .int .i64 v] 59)
      clear hS hA hb
      go_upto_region 5 with fail
      have sz1 : wr.heap.size < (wr.alloc (.cells #[.int .i64 u, .int .i64 v] 59)).heap.size := by simp
      clear e0 e1
      generalize hwx : wr.alloc (.cells #[.int .i64 u, .int .i64 v] 59) = wx at *
      clear hwx
      generalize wr.heap.size = gX at *
      obtain ⟨adp, p, rfl, hpv, hcp⟩ := (h1.below B1 (Nat.le_refl _)).get hlt2
      have hpr := hp p (List.mem_of_getElem? hpv.out)
      have hst := Lib.hid (ldO_step hx.out he.out hpv.out huv hvn hpr.1 hpr.2 hd2)
      obtain ⟨-, x2, x3⟩ := hx.out.2 u (by omega)
      obtain ⟨-, z2, z3⟩ := hx.out.2 v hvn
      have hxl := hx.out.1
      have p0 := A1'.cell (i := u) (by omega)
      have p1 := A1'.frozen u
      have t0 := Blk.cell S1 0
      have t1 := Blk.cell S1 1
      have y0 := Blk.cell X1 0
      simp at t0 t1 y0
      have j1 : (0 : Int) ≤ (u : Int) := by omega
      have j2 : (u : Int) < (n : Int) := by omega
      have j3 : (0 : Int) ≤ (v : Int) := by omega
      have j4 : (v : Int) < (n : Int) := by omega
      have xs0 : -9223372036854775808 ≤ xs.getD u 0 + p := by omega
      have xs1 : xs.getD u 0 + p ≤ 9223372036854775807 := by omega
      generalize hxu : xs.getD u 0 = XU at *
      have S2' := S1.far (p := ⟨gp, u, none⟩) (show w.heap.size + 1 ≠ gp by omega) (.int .i64 (XU + p))
      have X2' := X1.far (p := ⟨gp, u, none⟩) (show gX ≠ gp by omega) (.int .i64 (XU + p))
      have A2' := A1'.set u (XU + p)
      have B2' := B1.setCell (p := ⟨gp, u, none⟩) (by simp; omega) (.int .i64 (XU + p))
      replace S2' := Lib.hid S2'
      replace X2' := Lib.hid X2'
      replace A2' := Lib.hid A2'
      replace B2' := Lib.hid B2'
      clear S1 X1 A1' B1
      go_region
      go_upto_region 6 with fail
      clear p0 p1 t0 t1 y0 hcp
      have S3 := S2'.out.drew
      have X3 := X2'.out.drew
      have A3 := A2'.out.drew
      have B3 := B2'.out.drew
      have szy : gX < ((wx.setCell ⟨gp, u, none⟩ (.int .i64 (XU + p))).drew).heap.size := X3.lt
      clear S2' X2' A2' B2'
      generalize hwy : (wx.setCell ⟨gp, u, none⟩ (.int .i64 (XU + p))).drew = wy at *
      clear hwy
      obtain ⟨adq, p', hadq, hpq, hcq⟩ := (h1.below B3 (Nat.le_refl _)).get hlt2
      injection hadq with hadq
      subst hadq
      have hpp : p' = p := by
        have h1 := hpq.out
        rw [hpv.out] at h1
        injection h1 with h1
        exact h1.symm
      subst hpp
      have hgv : (xs.set u (XU + p')).getD v 0 = xs.getD v 0 := by rw [getD_set (by omega), if_neg (by omega)]
      have p0 := A3.cell (i := v) (by rw [List.length_set]; omega)
      rw [hgv] at p0
      have p1 := A3.frozen v
      have t0 := Blk.cell S3 0
      have t1 := Blk.cell S3 1
      have y0 := Blk.cell X3 1
      simp at t0 t1 y0
      clear hgv
      generalize hxv : xs.getD v 0 = XV at *
      have S4 := S3.far (p := ⟨gp, v, none⟩) (show w.heap.size + 1 ≠ gp by omega) (.int .i64 (XV + (den - p')))
      have A4 := A3.set v (XV + (den - p'))
      have B4 := B3.setCell (p := ⟨gp, v, none⟩) (by simp; omega) (.int .i64 (XV + (den - p')))
      have hfin := Lib.hid (And.intro S4 (And.intro A4 B4))
      replace hst := hst
      clear S3 X3 A3 B3 S4 A4 B4 hpq hpv
      go_region
      go_wp2_with fail
      go_roundw
      case rel => exact ⟨k + 1, _, by omega, by go_num, hfin.out.2.1.drew, hst, hfin.out.1.drew, hfin.out.2.2.drew⟩
      case measure => simp [intOf]; omega
    · obtain rfl : k = m := by omega
      have i1 : ¬ (k : Int) < (k : Int) := by omega
      have hfin : xs = ldL n den es ps := ldO_end (by rw [hel.out]; exact hx.out)
      have hRet := Lib.hid (And.intro (hfin ▸ hA : AI wr gp (ldL n den es ps)) hb)
      clear hA hS hb hfin
      go_wp2_with fail
      go_ret
      exact ⟨gp, rfl, sgp, hRet.out.1, hRet.out.2⟩
end Go.Proofs.YticekkjambkifaaGreatDoor.Fl

/- densest.Loads, Bound, with and without an error. -/
set_option linter.unusedVariables false
set_option linter.unusedSimpArgs false
namespace Go.Proofs.YticekkjambkifaaGreatDoor.Fl
open Go.RowKit Go.Proofs.YticekkjambkifaaGreatDoor CoBit CoRat Rt

set_option maxRecDepth 100000 in
set_option maxHeartbeats 2000000 in
theorem dloads_f (A : Option Addr) (m c : Nat) (n : Nat) (es : List (Int × Int)) (den : Int) (A1 : Option Addr) (k c1 : Nat) (ps : List Int) (w : World) (h : RE w A m es) (h1 : RI w A1 k ps) (hm : m ≤ 68719476736) (hk : k ≤ 1099511627776) (hz : chkG n es = 0) (hf : ¬ FitS m den ps) :
    Calls Tryz.prog 16 #[.agg #[.int .i64 n, .slice A m c], .agg #[.int .i64 den, .slice A1 k c1]] w fun e w' => e = .returned (.tuple #[.slice none 0 0, .int .i64 4]) ∧ Below w.heap.size w w' := by
  have ck := fun w h => gcheck_any A m c n es w h (by omega)
  rw [hz] at ck
  replace ck := Lib.hid ck
  have kf := fun w h1 => fits_any A m c n den A1 k c1 ps w h1 hk
  rw [decide_eq_false hf] at kf
  replace kf := Lib.hid kf
  clear hz hf
  have B0 : Below w.heap.size w ((w.alloc (.cells #[.int .i64 n, .slice A m c] 24)).alloc (.cells #[.int .i64 den, .slice A1 k c1] 36)) := ((Below.refl _ w).alloc (Nat.le_refl _) _).alloc (by simp) _
  have G0 := (Blk.new w 24 #[.int .i64 n, .slice A m c]).alloc (.cells #[.int .i64 den, .slice A1 k c1] 36)
  have S0 : Blk ((w.alloc (.cells #[.int .i64 n, .slice A m c] 24)).alloc (.cells #[.int .i64 den, .slice A1 k c1] 36)) (w.heap.size + 1) 36 #[.int .i64 den, .slice A1 k c1] := Blk.new' _ _ _ (by simp)
  go_enter Tryz.func16, Tryz.ntmps16
  go_wp2_with fail
  refine (ck.out _ ((h.alloc _).alloc _)).mono ?_
  rintro e w1 ⟨rfl, hb1⟩
  have G1 := G0.below hb1 G0.lt
  have S1 := S0.below hb1 S0.lt
  have B1 := B0.trans (hb1.mono B0.size)
  have hP1 := h1.below B1 (Nat.le_refl _)
  clear G0 S0 B0 hb1 ck h h1
  have g0 := Blk.cell G1 0
  have g1 := Blk.cell G1 1
  have s0 := Blk.cell S1 0
  have s1 := Blk.cell S1 1
  simp at g0 g1 s0 s1
  go_wp2_with fail
  refine (kf.out _ hP1).mono ?_
  rintro e w2 ⟨rfl, hb2⟩
  have B2 := B1.trans (hb2.mono B1.size)
  clear G1 S1 B1 hb2 hP1 kf g0 g1 s0 s1
  go_wp2_with fail
  go_ret2
  exact ⟨rfl, B2⟩
set_option maxRecDepth 100000 in
set_option maxHeartbeats 2000000 in
theorem dloads_r (A : Option Addr) (m c : Nat) (n : Nat) (es : List (Int × Int)) (den : Int) (A1 : Option Addr) (k c1 : Nat) (ps : List Int) (w : World) (h : RE w A m es) (h1 : RI w A1 k ps) (hm : m ≤ 68719476736) (hz : chkG n es = 0) (hn : n ≤ 64) (hf : FitS m den ps) :
    Calls Tryz.prog 16 #[.agg #[.int .i64 n, .slice A m c], .agg #[.int .i64 den, .slice A1 k c1]] w fun e w' => ∃ g : Nat, e = .returned (.tuple #[.slice (some ⟨g, 0, none⟩) n n, .int .i64 0]) ∧ w.heap.size ≤ g ∧ AI w' g (ldL n den es ps) ∧ Below w.heap.size w w' := by
  obtain rfl : k = m := by rw [← h1.len]; exact hf.2.2.1
  have ck := fun w h => gcheck_any A k c n es w h (by omega)
  rw [hz] at ck
  replace ck := Lib.hid ck
  have kf := fun w h1 => fits_any A k c n den A1 k c1 ps w h1 (by omega)
  rw [decide_eq_true hf] at kf
  replace kf := Lib.hid kf
  have kl := Lib.hid (fun w h h1 => ploads_ok A k c n es den A1 c1 ps w h h1 hm hz hn hf.1 hf.2.1 hf.2.2.2)
  generalize ldL n den es ps = LL at *
  clear hz hf
  have B0 : Below w.heap.size w ((w.alloc (.cells #[.int .i64 n, .slice A k c] 24)).alloc (.cells #[.int .i64 den, .slice A1 k c1] 36)) := ((Below.refl _ w).alloc (Nat.le_refl _) _).alloc (by simp) _
  have G0 := (Blk.new w 24 #[.int .i64 n, .slice A k c]).alloc (.cells #[.int .i64 den, .slice A1 k c1] 36)
  have S0 : Blk ((w.alloc (.cells #[.int .i64 n, .slice A k c] 24)).alloc (.cells #[.int .i64 den, .slice A1 k c1] 36)) (w.heap.size + 1) 36 #[.int .i64 den, .slice A1 k c1] := Blk.new' _ _ _ (by simp)
  go_enter Tryz.func16, Tryz.ntmps16
  go_wp2_with fail
  refine (ck.out _ ((h.alloc _).alloc _)).mono ?_
  rintro e w1 ⟨rfl, hb1⟩
  have G1 := G0.below hb1 G0.lt
  have S1 := S0.below hb1 S0.lt
  have B1 := B0.trans (hb1.mono B0.size)
  have hE1 := h.below B1 (Nat.le_refl _)
  have hP1 := h1.below B1 (Nat.le_refl _)
  clear G0 S0 B0 hb1 ck h h1
  have g0 := Blk.cell G1 0
  have g1 := Blk.cell G1 1
  have s0 := Blk.cell S1 0
  have s1 := Blk.cell S1 1
  simp at g0 g1 s0 s1
  go_wp2_with fail
  refine (kf.out _ hP1).mono ?_
  rintro e w2 ⟨rfl, hb2⟩
  have G2 := G1.below hb2 G1.lt
  have S2 := S1.below hb2 S1.lt
  have B2 := B1.trans (hb2.mono B1.size)
  have hE2 := hE1.below hb2 (Nat.le_refl _)
  have hP2 := hP1.below hb2 (Nat.le_refl _)
  clear G1 S1 B1 hb2 hP1 hE1 kf g0 g1 s0 s1
  have g0 := Blk.cell G2 0
  have g1 := Blk.cell G2 1
  have s0 := Blk.cell S2 0
  have s1 := Blk.cell S2 1
  simp at g0 g1 s0 s1
  go_wp2_with fail
  refine (kl.out _ hE2 hP2).mono ?_
  rintro e w3 ⟨g, rfl, hg, hA, hb3⟩
  have hgl : Hid (w.heap.size ≤ g) := Lib.hid (Nat.le_trans B2.size hg)
  have B3 := B2.trans (hb3.mono B2.size)
  clear G2 S2 B2 hb3 hE2 hP2 kl g0 g1 s0 s1 hg
  go_wp2_with fail
  go_ret2
  exact ⟨g, rfl, hgl.out, hA, B3⟩
set_option maxRecDepth 100000 in
set_option maxHeartbeats 2000000 in
theorem dbound_f (A : Option Addr) (m c : Nat) (n : Nat) (es : List (Int × Int)) (den : Int) (A1 : Option Addr) (k c1 : Nat) (ps : List Int) (w : World) (h : RE w A m es) (h1 : RI w A1 k ps) (hm : m ≤ 68719476736) (hk : k ≤ 1099511627776) (hz : chkG n es = 0) (hf : ¬ FitS m den ps) :
    Calls Tryz.prog 18 #[.agg #[.int .i64 n, .slice A m c], .agg #[.int .i64 den, .slice A1 k c1]] w fun e w' => e = .returned (.tuple #[.agg #[.int .i64 0, .int .i64 0], .int .i64 4]) ∧ Below w.heap.size w w' := by
  have kl := Lib.hid (fun w h h1 => dloads_f A m c n es den A1 k c1 ps w h h1 hm hk hz hf)
  clear hz hf
  have B0 : Below w.heap.size w (((w.alloc (.cells #[.int .i64 n, .slice A m c] 24)).alloc (.cells #[.int .i64 den, .slice A1 k c1] 36)).alloc (.cells #[.int .i64 0, .int .i64 0] 34)) := (((Below.refl _ w).alloc (Nat.le_refl _) _).alloc (by simp) _).alloc (by simp; omega) _
  have F0 : Blk (((w.alloc (.cells #[.int .i64 n, .slice A m c] 24)).alloc (.cells #[.int .i64 den, .slice A1 k c1] 36)).alloc (.cells #[.int .i64 0, .int .i64 0] 34)) (w.heap.size + 1 + 1) 34 #[.int .i64 0, .int .i64 0] := Blk.new' _ _ _ (by simp)
  go_enter Tryz.func18, Tryz.ntmps18
  go_wp2_with fail
  refine (kl.out _ (((h.alloc _).alloc _).alloc _) (((h1.alloc _).alloc _).alloc _)).mono ?_
  rintro e w1 ⟨rfl, hb1⟩
  have F1 := F0.below hb1 F0.lt
  have B1 := B0.trans (hb1.mono B0.size)
  have z1 : w.heap.size + 1 + 1 < w1.heap.size := F1.lt
  clear F0 B0 hb1 kl h h1
  have y0 := Blk.cell F1 0
  have y1 := Blk.cell F1 1
  have f0 := Blk.frozen F1 0
  have f1 := Blk.frozen F1 1
  simp at y0 y1
  have hzz := Blk.set (Blk.set F1 0 (.int .i64 0)) 1 (.int .i64 0)
  have e0 := Blk.cell hzz 0
  have e1 := Blk.cell hzz 1
  simp at e0 e1
  have hbz := B1.grown (grown_set (grown_set (World.grownBy.refl w1 (some (w.heap.size + 1 + 1))) 0 (.int .i64 0)) 1 (.int .i64 0)) B1.size (fun k hk => by injection hk with hk; omega)
  clear hzz F1 B1
  go_wp2_with fail
  refine bodyPost_ret (v := .tuple #[.agg #[.int .i64 0, .int .i64 0], .int .i64 4]) (by simp [results, Tryz.results18, go_sem, e0, e1]) rfl ?_
  exact ⟨rfl, hbz⟩
theorem AI.oi' {w : World} {g B : Nat} {xs : List Int} (h : AI w g xs) (hB : B ≤ g) (hn : xs.length ≤ 1099511627776) : OI w B (.slice (some ⟨g, 0, none⟩) xs.length xs.length) xs := by
  refine ⟨by rw [ints_length]; omega, .inr ⟨g, xs.length, (ints xs).toArray, rfl, hB, h, Nat.le_refl _, by unfold maxLen; omega, by simp [ints_length], by rw [← ints_length]; simp⟩⟩
theorem maxL_snoc (l : List Int) : IsMx (l ++ [0]) (maxL l) := by
  refine ⟨?_, fun x hx => ?_⟩
  · have key : ∀ (l : List Int) (a : Int), l.foldl (fun a x => max a x) a = a ∨ l.foldl (fun a x => max a x) a ∈ l := fun l => by
      induction l with
      | nil => intro a; exact .inl rfl
      | cons x l ih =>
        intro a
        rw [List.foldl_cons]
        rcases ih (max a x) with h | h
        · rw [h]
          rcases Int.le_total a x with hax | hax
          · rw [Int.max_eq_right hax]; exact .inr (List.mem_cons_self ..)
          · rw [Int.max_eq_left hax]; exact .inl rfl
        · exact .inr (List.mem_cons_of_mem _ h)
    rcases key l 0 with h | h
    · refine List.mem_append_right _ (List.mem_singleton.2 ?_)
      exact h
    · exact List.mem_append_left _ h
  · rcases List.mem_append.1 hx with hx | hx
    · exact maxL_ge hx
    · rw [List.mem_singleton] at hx; subst hx; exact maxL_nonneg l
set_option maxRecDepth 100000 in
set_option maxHeartbeats 4000000 in
theorem dbound_r (A : Option Addr) (m c : Nat) (n : Nat) (es : List (Int × Int)) (den : Int) (A1 : Option Addr) (k c1 : Nat) (ps : List Int) (w : World) (h : RE w A m es) (h1 : RI w A1 k ps) (hm : m ≤ 68719476736) (hz : chkG n es = 0) (hn : n ≤ 64) (hf : FitS m den ps) :
    Calls Tryz.prog 18 #[.agg #[.int .i64 n, .slice A m c], .agg #[.int .i64 den, .slice A1 k c1]] w fun e w' => e = .returned (.tuple #[.agg #[.int .i64 (mkN (maxL (ldL n den es ps)) den), .int .i64 (mkD (maxL (ldL n den es ps)) den)], .int .i64 0]) ∧ Below w.heap.size w w' := by
  have kl := Lib.hid (fun w h h1 => dloads_r A m c n es den A1 k c1 ps w h h1 hm hz hn hf)
  have hll : (ldL n den es ps).length = n := by unfold ldL; simp
  obtain ⟨hd1, hd2, hkm, hp⟩ := hf
  have hbd : ∀ x ∈ ldL n den es ps, 0 ≤ x ∧ x ≤ 1152921504606846976 := fun x hx => by
    have h1 := ldL_bd (by omega) hp x hx
    have h2 := h.len
    have h3 : (es.length : Int) * (2 * den) ≤ 68719476736 * 2097152 := Int.mul_le_mul (by omega) (by omega) (by omega) (by omega)
    omega
  generalize ldL n den es ps = LL at *
  clear hz hp hkm
  have hmx : 0 ≤ maxL LL ∧ maxL LL ≤ 1152921504606846976 := ⟨maxL_nonneg _, maxL_le (by omega) (fun x hx => (hbd x hx).2)⟩
  obtain ⟨d, rfl⟩ := Int.eq_ofNat_of_zero_le (show 0 ≤ den by omega)
  have hme : mkE (maxL LL) (d : Int) = 0 := by
    obtain ⟨M', hM'⟩ := Int.eq_ofNat_of_zero_le hmx.1
    rw [hM']
    exact (mk_small (a := M') (b := d) (by omega) (by unfold M; omega) (by unfold M; omega)).2.2
  have kof := fun w => make_any (maxL LL) (d : Int) w (by omega) (by omega) (by omega) (by omega)
  rw [hme] at kof
  replace kof := Lib.hid kof
  have B0 : Below w.heap.size w (((w.alloc (.cells #[.int .i64 n, .slice A m c] 24)).alloc (.cells #[.int .i64 (d : Nat), .slice A1 k c1] 36)).alloc (.cells #[.int .i64 0, .int .i64 0] 34)) := (((Below.refl _ w).alloc (Nat.le_refl _) _).alloc (by simp) _).alloc (by simp; omega) _
  have S0 : Blk (((w.alloc (.cells #[.int .i64 n, .slice A m c] 24)).alloc (.cells #[.int .i64 (d : Nat), .slice A1 k c1] 36)).alloc (.cells #[.int .i64 0, .int .i64 0] 34)) (w.heap.size + 1) 36 #[.int .i64 (d : Nat), .slice A1 k c1] := (Blk.new' _ _ _ (by simp)).alloc _
  have F0 : Blk (((w.alloc (.cells #[.int .i64 n, .slice A m c] 24)).alloc (.cells #[.int .i64 (d : Nat), .slice A1 k c1] 36)).alloc (.cells #[.int .i64 0, .int .i64 0] 34)) (w.heap.size + 1 + 1) 34 #[.int .i64 0, .int .i64 0] := Blk.new' _ _ _ (by simp)
  go_enter Tryz.func18, Tryz.ntmps18
  go_wp2_with fail
  refine (kl.out _ (((h.alloc _).alloc _).alloc _) (((h1.alloc _).alloc _).alloc _)).mono ?_
  rintro e w1 ⟨g, rfl, hg, hA, hb1⟩
  have S1 := S0.below hb1 S0.lt
  have F1 := F0.below hb1 F0.lt
  have B1 := B0.trans (hb1.mono B0.size)
  have z1 : w.heap.size + 1 + 1 < w1.heap.size := F1.lt
  have z2 : w.heap.size + 1 < w1.heap.size := S1.lt
  have hgw : w.heap.size + 3 ≤ g := by simp at hg; omega
  clear S0 F0 B0 hb1 kl h h1 hg
  have hO := AI.oi' hA (B := w.heap.size + 3) hgw (by rw [hll]; omega)
  rw [hll] at hO
  have sw := S1.lt
  have s0 := Blk.cell S1 0
  simp at s0
  have y0 := Blk.cell F1 0
  have y1 := Blk.cell F1 1
  have f0 := Blk.frozen F1 0
  have f1 := Blk.frozen F1 1
  simp at y0 y1
  have hmq : ∀ m', IsMx (LL ++ [0]) m' → m' = maxL LL := fun m' hm' => isMx_unique hm' (maxL_snoc LL)
  obtain ⟨mx, hmx0⟩ : ∃ mx, mx = maxL LL := ⟨_, rfl⟩
  replace kof := kof.out
  rw [← hmx0] at hmq kof
  replace kof := Lib.hid kof
  replace hmq := Lib.hid hmq
  replace hmx0 := Lib.hid (And.intro hmx0 True.intro)
  have Od : OI w1.drew (w.heap.size + 3) (.slice (some ⟨g, 0, none⟩) n n) LL := hO
  have nsp : Hid (some (w.heap.size + 1) ≠ (Value.slice (some ⟨g, 0, none⟩) n n).ownBlock) := Lib.hid (fun e => by injection e with e; simp at e; omega)
  have nfr : Hid (some (w.heap.size + 1 + 1) ≠ (Value.slice (some ⟨g, 0, none⟩) n n).ownBlock) := Lib.hid (fun e => by injection e with e; simp at e; omega)
  have nab : ∀ k, (Value.slice (some ⟨g, 0, none⟩) n n).ownBlock = some k → w.heap.size ≤ k := fun k hk => by injection hk with hk; simp at hk; omega
  have Bd := B1.drew
  have Fd : Blk w1.drew (w.heap.size + 1 + 1) 34 #[.int .i64 0, .int .i64 0] := F1
  have sd : w1.drew.cell? ⟨w.heap.size + 1, 0, none⟩ = some (.int .i64 (d : Nat)) := s0
  have sa : (w1.alloc (.cells #[.int .i64 0] 3)).drew.cell? ⟨w.heap.size + 1, 0, none⟩ = some (.int .i64 (d : Nat)) := kept_alloc s0 (.cells #[.int .i64 0] 3)
  have hn64 := hn
  replace nab := Lib.hid nab
  clear hO hA y0 y1 f0 f1 hmx hbd hgw
  obtain ⟨FN, hFN⟩ : ∃ x, x = mkN mx (d : Int) := ⟨_, rfl⟩
  obtain ⟨FD, hFD⟩ : ∃ x, x = mkD mx (d : Int) := ⟨_, rfl⟩
  replace kof := kof.out
  rw [← hFN, ← hFD] at kof
  replace kof := Lib.hid kof
  have hpk := Lib.hid (And.intro hFN hFD)
  clear hFN hFD
  go_upto_region 4 with fail
  go_loud (go_region_held3 (fun w' => w'.cell? ⟨w.heap.size + 1, 0, none⟩ = some (.int .i64 (d : Nat)))
    ((first | (with_reducible exact s0) | (with_reducible exact sd) | (with_reducible exact sa) | (with_reducible exact z4) | (with_reducible exact z5) | (with_reducible exact z6) | fail))
    ((first
      | (refine step_pushO (w := w1.drew) (y := (0 : Int)) (T := 3) (H := w1.heap.size) (B := w.heap.size + 3) (v := .slice (some ⟨g, 0, none⟩) n n) (by rfl) (.tmp 18) (.tmp 19) (by rfl) (by rfl) (by rfl) (by first | rfl | simp) Od (by omega) (by simp; omega) ?_; intro v' w2 O2 g2 e2; have B2 := Bd.grown g2 Bd.size nab.out; have F2 := Blk.grown Fd g2 nfr.out; have z4 := g2.cell sd nsp.out; obtain ⟨A2, n2, c2, rfl, hn2, -, -, hr2⟩ := O2.form; have hn3 : n2 = n + 1 := (by rw [List.length_append, hll] at hn2; exact hn2); clear hn2; subst hn3; clear O2 g2 e2)
      | (go_at_call 43; (with_reducible refine (smax_any A2 (n + 1) c2 (LL ++ [0]) _ hr2 (by omega) (by omega)).mono ?_); rintro e w3 ⟨m', rfl, hm', hw3⟩; obtain rfl := hw3; obtain rfl := hmq.out _ hm')
      | (go_at_call 42; (with_reducible refine (kof.out _).mono ?_); rintro e w4 ⟨rfl, hb4⟩; have z5 := (hb4.cell (p := ⟨w.heap.size + 1, 0, none⟩) (show w.heap.size + 1 < w2.heap.size from World.block_lt_of_cell? w2 _ z4)).trans z4; have F4 := Blk.below F2 hb4 F2.lt; have B4 := B2.trans (hb4.mono B2.size); have y0 := Blk.cell F4 0; have y1 := Blk.cell F4 1; have f0 := Blk.frozen F4 0; have f1 := Blk.frozen F4 1; simp at y0 y1; have z6 := (World.cell?_setCell_other (w4.setCell ⟨w.heap.size + 1 + 1, 0, none⟩ (.int .i64 FN)) ⟨w.heap.size + 1 + 1, 1, none⟩ ⟨w.heap.size + 1, 0, none⟩ (.int .i64 FD) (fun e => by injection e with e; omega)).trans ((World.cell?_setCell_other w4 ⟨w.heap.size + 1 + 1, 0, none⟩ ⟨w.heap.size + 1, 0, none⟩ (.int .i64 FN) (fun e => by injection e with e; omega)).trans z5))
      | fail)))
  have hzz := Blk.set (Blk.set F4 0 (.int .i64 FN)) 1 (.int .i64 FD)
  have e0 := Blk.cell hzz 0
  have e1 := Blk.cell hzz 1
  simp at e0 e1
  have hbz := Lib.hid (B4.grown (grown_set (grown_set (World.grownBy.refl w4 (some (w.heap.size + 1 + 1))) 0 (.int .i64 FN)) 1 (.int .i64 FD)) B4.size (fun k hk => by injection hk with hk; omega))
  clear hzz F4 B4 z4 z5 z6 sd sa s0
  go_wp2_with fail
  refine bodyPost_ret (v := .tuple #[.agg #[.int .i64 FN, .int .i64 FD], .int .i64 0]) (by simp [results, Tryz.results18, go_sem, e0, e1]) rfl ?_
  exact ⟨by rw [hpk.out.1, hpk.out.2, hmx0.out.1], hbz.out⟩
end Go.Proofs.YticekkjambkifaaGreatDoor.Fl

/- densest.Check. -/
set_option linter.unusedVariables false
set_option linter.unusedSimpArgs false
namespace Go.Proofs.YticekkjambkifaaGreatDoor.Fl
open Go.RowKit Go.Proofs.YticekkjambkifaaGreatDoor CoBit CoRat Rt

/-- The first error of a set, its density and a split. -/
def dchk (n : Nat) (es : List (Int × Int)) (m : Nat) (l : List Int) (N D den : Int) (ps : List Int) : Int :=
  if ¬ Vld l n ∨ (l.length = 0 ∧ 0 < n) ∨ ¬ FitS m den ps then 4
  else if dseN es l l.length ≠ N ∨ dseD es l l.length ≠ D ∨ 0 < cmpF (mkN (maxL (ldL n den es ps)) den) (mkD (maxL (ldL n den es ps)) den) (dseN es l l.length) (dseD es l l.length) then 12 else 0
set_option maxRecDepth 100000 in
set_option maxHeartbeats 4000000 in
theorem dcheck_any (A : Option Addr) (m c : Nat) (n : Nat) (es : List (Int × Int)) (AS : Option Addr) (ns cs : Nat) (l : List Int) (N D den : Int) (AP : Option Addr) (np cp : Nat) (ps : List Int) (w : World) (h : RE w A m es) (hm : m ≤ 68719476736) (hz : chkG n es = 0) (hn : n ≤ 64) (hS : RI w AS ns l) (hns : ns ≤ 1099511627776) (hP : RI w AP np ps) (hnp : np ≤ 1099511627776) :
    Calls Tryz.prog 22 #[.agg #[.int .i64 n, .slice A m c], .agg #[.slice AS ns cs, .int .i64 N, .int .i64 D, .int .i64 den, .slice AP np cp]] w fun e w' => e = .returned (.int .i64 (dchk n es m l N D den ps)) ∧ Below w.heap.size w w' := by
  have hll := hS.len
  have ck := fun w h => gcheck_any A m c n es w h (by omega)
  rw [hz] at ck
  replace ck := Lib.hid ck
  have kv := fun w hS => nvalid_any AS ns cs l n w hS (by omega)
  have kf := fun w hP => fits_any A m c n den AP np cp ps w hP hnp
  have B0 : Below w.heap.size w ((w.alloc (.cells #[.int .i64 n, .slice A m c] 24)).alloc (.cells #[.slice AS ns cs, .int .i64 N, .int .i64 D, .int .i64 den, .slice AP np cp] 38)) := ((Below.refl _ w).alloc (Nat.le_refl _) _).alloc (by simp) _
  have G0 := (Blk.new w 24 #[.int .i64 n, .slice A m c]).alloc (.cells #[.slice AS ns cs, .int .i64 N, .int .i64 D, .int .i64 den, .slice AP np cp] 38)
  have D0 : Blk ((w.alloc (.cells #[.int .i64 n, .slice A m c] 24)).alloc (.cells #[.slice AS ns cs, .int .i64 N, .int .i64 D, .int .i64 den, .slice AP np cp] 38)) (w.heap.size + 1) 38 #[.slice AS ns cs, .int .i64 N, .int .i64 D, .int .i64 den, .slice AP np cp] := Blk.new' _ _ _ (by simp)
  by_cases hV : Vld l n
  · rw [decide_eq_true hV] at kv
    by_cases h0 : l.length = 0 ∧ 0 < n
    · have hv : dchk n es m l N D den ps = 4 := by unfold dchk; rw [if_pos (.inr (.inl h0))]
      rw [hv]
      obtain ⟨h1, h2⟩ := h0
      have q0 : ((ns : Int) == 0) = true := by rw [← hll, h1]; rfl
      have q1 : (0 : Int) < (n : Int) := by omega
      replace kv := Lib.hid kv
      clear hv kf h1
      go_enter Tryz.func22, Tryz.ntmps22
      go_wp2_with fail
      refine (ck.out _ ((h.alloc _).alloc _)).mono ?_
      rintro e w1 ⟨rfl, hb1⟩
      have G1 := G0.below hb1 G0.lt
      have D1 := D0.below hb1 D0.lt
      have B1 := B0.trans (hb1.mono B0.size)
      have hS1 := hS.below B1 (Nat.le_refl _)
      clear G0 D0 B0 hb1 ck h hS
      have g0 := Blk.cell G1 0
      have g1 := Blk.cell G1 1
      have s0 := Blk.cell D1 0
      simp at g0 g1 s0
      go_wp2_with (first | (go_at_call 47; (with_reducible refine (kv.out _ hS1).mono ?_); rintro e w2 ⟨rfl, hw⟩; obtain rfl := hw) | fail)
      go_ret
      exact ⟨rfl, B1⟩
    · by_cases e : ns = 0
      · subst e
        have q0 : (((0 : Nat) : Int) == 0) = true := rfl
        have hn0 : Hid (n = 0) := Lib.hid (Nat.eq_zero_of_not_pos fun hh => h0 ⟨hll, hh⟩)
        have hv0 : ¬ (¬ Vld l n ∨ (l.length = 0 ∧ 0 < n)) := fun h => h.elim (fun h => h hV) h0
        replace kv := Lib.hid kv
        by_cases hF : FitS m den ps
        · rw [decide_eq_true hF] at kf
          have hv : dchk n es m l N D den ps = if dseN es l l.length ≠ N ∨ dseD es l l.length ≠ D ∨ 0 < cmpF (mkN (maxL (ldL n den es ps)) den) (mkD (maxL (ldL n den es ps)) den) (dseN es l l.length) (dseD es l l.length) then 12 else 0 := by
            unfold dchk
            rw [if_neg (fun h => h.elim (fun h => h hV) (fun h => h.elim h0 (fun h => h hF)))]
          rw [hv]
          have kd := Lib.hid (fun w h hS => pdensity_any A m c n es AS 0 cs l w h hm hz hn hS hns hV)
          have kb := Lib.hid (fun w h hP => dbound_r A m c n es den AP np cp ps w h hP hm hz hn hF)
          generalize dseN es l l.length = dN at *
          generalize dseD es l l.length = dD at *
          generalize mkN (maxL (ldL n den es ps)) den = mN at *
          generalize mkD (maxL (ldL n den es ps)) den = mD at *
          have kc := fun w => Rt.cmp_any mN mD dN dD w
          generalize cmpF mN mD dN dD = C at *
          obtain ⟨R, hR⟩ : ∃ R : Int, R = if dN ≠ N ∨ dD ≠ D ∨ 0 < C then 12 else 0 := ⟨_, rfl⟩
          rw [← hR]
          replace hR := Lib.hid hR
          replace kc := Lib.hid kc
          replace kf := Lib.hid kf
          clear hv hv0 hF hz hV
          generalize hnI : (n : Int) = nI at *
          have q1 : ¬ (0 : Int) < nI := by have := hn0.out; omega
          replace hnI := Lib.hid hnI
          go_enter Tryz.func22, Tryz.ntmps22
          go_wp2_with fail
          refine (ck.out _ ((h.alloc _).alloc _)).mono ?_
          rintro e w1 ⟨rfl, hb1⟩
          have G1 := G0.below hb1 G0.lt
          have D1 := D0.below hb1 D0.lt
          have B1 := B0.trans (hb1.mono B0.size)
          have hE1 := h.below B1 (Nat.le_refl _)
          have hS1 := hS.below B1 (Nat.le_refl _)
          have hP1 := hP.below B1 (Nat.le_refl _)
          clear G0 D0 B0 hb1 ck h hS hP
          have g0 := Blk.cell G1 0
          have g1 := Blk.cell G1 1
          have s0 := Blk.cell D1 0
          have s1 := Blk.cell D1 1
          have s2 := Blk.cell D1 2
          have s3 := Blk.cell D1 3
          have s4 := Blk.cell D1 4
          simp at g0 g1 s0 s1 s2 s3 s4
          go_upto_region 6 with (first
            | (go_at_call 47; (with_reducible refine (kv.out _ hS1).mono ?_); rintro e w2 ⟨rfl, hw⟩; obtain rfl := hw)
            | (go_at_call 39; (with_reducible refine (kf.out _ hP1).mono ?_); rintro e w2 ⟨rfl, hb2⟩)
            | fail)
          have G2 := G1.below hb2 G1.lt
          have D2 := D1.below hb2 D1.lt
          have B2 := B1.trans (hb2.mono B1.size)
          have hE2 := hE1.below hb2 (Nat.le_refl _)
          have hS2 := hS1.below hb2 (Nat.le_refl _)
          have hP2 := hP1.below hb2 (Nat.le_refl _)
          clear G1 D1 B1 hE1 hS1 hP1 hb2 kv kf g0 g1 s0 s1 s2 s3 s4
          have g0 := Blk.cell G2 0
          have g1 := Blk.cell G2 1
          have s0 := Blk.cell D2 0
          simp at g0 g1 s0
          go_upto_region 7 with (first
            | (go_at_call 48; (with_reducible refine (kd.out _ hE2 hS2).mono ?_); rintro e w3 ⟨rfl, hb3⟩)
            | fail)
          have G3 := (G2.below hb3 G2.lt).alloc (.cells #[.int .i64 dN, .int .i64 dD] 34)
          have D3 := (D2.below hb3 D2.lt).alloc (.cells #[.int .i64 dN, .int .i64 dD] 34)
          have F3 := Blk.new w3 34 #[.int .i64 dN, .int .i64 dD]
          have B3 := (B2.trans (hb3.mono B2.size)).alloc (B2.trans (hb3.mono B2.size)).size (.cells #[.int .i64 dN, .int .i64 dD] 34)
          have hE3 := (hE2.below hb3 (Nat.le_refl _)).alloc (.cells #[.int .i64 dN, .int .i64 dD] 34)
          have hP3 := (hP2.below hb3 (Nat.le_refl _)).alloc (.cells #[.int .i64 dN, .int .i64 dD] 34)
          clear G2 D2 B2 hE2 hS2 hP2 hb3 kd g0 g1 s0
          generalize w3.alloc (.cells #[.int .i64 dN, .int .i64 dD] 34) = w4 at *
          generalize w3.heap.size = gx at *
          have g0 := Blk.cell G3 0
          have g1 := Blk.cell G3 1
          have s3 := Blk.cell D3 3
          have s4 := Blk.cell D3 4
          simp at g0 g1 s3 s4
          go_upto_region 8 with (first
            | (go_at_call 18; (with_reducible refine (kb.out _ hE3 hP3).mono ?_); rintro e w5 ⟨rfl, hb5⟩)
            | fail)
          have D5 := (D3.below hb5 D3.lt).alloc (.cells #[.int .i64 mN, .int .i64 mD] 34)
          have F5 := (F3.below hb5 F3.lt).alloc (.cells #[.int .i64 mN, .int .i64 mD] 34)
          have M5 := Blk.new w5 34 #[.int .i64 mN, .int .i64 mD]
          have B5 := (B3.trans (hb5.mono B3.size)).alloc (B3.trans (hb5.mono B3.size)).size (.cells #[.int .i64 mN, .int .i64 mD] 34)
          clear G3 D3 F3 B3 hE3 hP3 hb5 kb g0 g1 s3 s4
          generalize w5.alloc (.cells #[.int .i64 mN, .int .i64 mD] 34) = w6 at *
          generalize w5.heap.size = gm at *
          have s1 := Blk.cell D5 1
          have s2 := Blk.cell D5 2
          have x0 := Blk.cell F5 0
          have x1 := Blk.cell F5 1
          have m0 := Blk.cell M5 0
          have m1 := Blk.cell M5 1
          simp at s1 s2 x0 x1 m0 m1
          by_cases hN : dN = N
          · by_cases hD : dD = D
            · have e1 : (dN == N) = true := by simpa using hN
              have e2 : (dD == D) = true := by simpa using hD
              by_cases hC : 0 < C
              · have hv2 : Hid ((if dN ≠ N ∨ dD ≠ D ∨ 0 < C then (12 : Int) else 0) = 12) := Lib.hid (if_pos (.inr (.inr hC)))
                clear hN hD
                go_wp2_with (first | (go_at_call 49; (with_reducible refine (kc.out _).mono ?_); rintro e w7 ⟨rfl, hb7⟩) | fail)
                go_ret
                exact ⟨by rw [hR.out, hv2.out]; rfl, B5.trans (hb7.mono B5.size)⟩
              · have hv2 : Hid ((if dN ≠ N ∨ dD ≠ D ∨ 0 < C then (12 : Int) else 0) = 0) := Lib.hid (if_neg (fun h => h.elim (fun h => h hN) (fun h => h.elim (fun h => h hD) hC)))
                clear hN hD
                go_wp2_with (first | (go_at_call 49; (with_reducible refine (kc.out _).mono ?_); rintro e w7 ⟨rfl, hb7⟩) | fail)
                go_ret
                exact ⟨by rw [hR.out, hv2.out]; rfl, B5.trans (hb7.mono B5.size)⟩
            · have hv2 : Hid ((if dN ≠ N ∨ dD ≠ D ∨ 0 < C then (12 : Int) else 0) = 12) := Lib.hid (if_pos (.inr (.inl hD)))
              have e1 : (dN == N) = true := by simpa using hN
              have e2 : (dD == D) = false := by simpa using hD
              clear hN hD
              go_wp2_with fail
              go_ret
              exact ⟨by rw [hR.out, hv2.out]; rfl, B5⟩
          · have hv2 : Hid ((if dN ≠ N ∨ dD ≠ D ∨ 0 < C then (12 : Int) else 0) = 12) := Lib.hid (if_pos (.inl hN))
            have e1 : (dN == N) = false := by simpa using hN
            clear hN
            go_wp2_with fail
            go_ret
            exact ⟨by rw [hR.out, hv2.out]; rfl, B5⟩
        · rw [decide_eq_false hF] at kf
          have hv : dchk n es m l N D den ps = 4 := by unfold dchk; rw [if_pos (.inr (.inr hF))]
          rw [hv]
          replace kf := Lib.hid kf
          clear hv hv0 hF hz hV
          generalize hnI : (n : Int) = nI at *
          have q1 : ¬ (0 : Int) < nI := by have := hn0.out; omega
          replace hnI := Lib.hid hnI
          go_enter Tryz.func22, Tryz.ntmps22
          go_wp2_with fail
          refine (ck.out _ ((h.alloc _).alloc _)).mono ?_
          rintro e w1 ⟨rfl, hb1⟩
          have G1 := G0.below hb1 G0.lt
          have D1 := D0.below hb1 D0.lt
          have B1 := B0.trans (hb1.mono B0.size)
          have hE1 := h.below B1 (Nat.le_refl _)
          have hS1 := hS.below B1 (Nat.le_refl _)
          have hP1 := hP.below B1 (Nat.le_refl _)
          clear G0 D0 B0 hb1 ck h hS hP
          have g0 := Blk.cell G1 0
          have g1 := Blk.cell G1 1
          have s0 := Blk.cell D1 0
          have s1 := Blk.cell D1 1
          have s2 := Blk.cell D1 2
          have s3 := Blk.cell D1 3
          have s4 := Blk.cell D1 4
          simp at g0 g1 s0 s1 s2 s3 s4
          go_wp2_with (first
            | (go_at_call 47; (with_reducible refine (kv.out _ hS1).mono ?_); rintro e w2 ⟨rfl, hw⟩; obtain rfl := hw)
            | (go_at_call 39; (with_reducible refine (kf.out _ hP1).mono ?_); rintro e w2 ⟨rfl, hb2⟩)
            | fail)
          go_ret
          exact ⟨rfl, B1.trans (hb2.mono B1.size)⟩
      · have q0 : ((ns : Int) == 0) = false := by rw [beq_eq_false_iff_ne]; omega
        have hv0 : ¬ (¬ Vld l n ∨ (l.length = 0 ∧ 0 < n)) := fun h => h.elim (fun h => h hV) h0
        replace kv := Lib.hid kv
        by_cases hF : FitS m den ps
        · rw [decide_eq_true hF] at kf
          have hv : dchk n es m l N D den ps = if dseN es l l.length ≠ N ∨ dseD es l l.length ≠ D ∨ 0 < cmpF (mkN (maxL (ldL n den es ps)) den) (mkD (maxL (ldL n den es ps)) den) (dseN es l l.length) (dseD es l l.length) then 12 else 0 := by
            unfold dchk
            rw [if_neg (fun h => h.elim (fun h => h hV) (fun h => h.elim h0 (fun h => h hF)))]
          rw [hv]
          have kd := Lib.hid (fun w h hS => pdensity_any A m c n es AS ns cs l w h hm hz hn hS hns hV)
          have kb := Lib.hid (fun w h hP => dbound_r A m c n es den AP np cp ps w h hP hm hz hn hF)
          generalize dseN es l l.length = dN at *
          generalize dseD es l l.length = dD at *
          generalize mkN (maxL (ldL n den es ps)) den = mN at *
          generalize mkD (maxL (ldL n den es ps)) den = mD at *
          have kc := fun w => Rt.cmp_any mN mD dN dD w
          generalize cmpF mN mD dN dD = C at *
          obtain ⟨R, hR⟩ : ∃ R : Int, R = if dN ≠ N ∨ dD ≠ D ∨ 0 < C then 12 else 0 := ⟨_, rfl⟩
          rw [← hR]
          replace hR := Lib.hid hR
          replace kc := Lib.hid kc
          replace kf := Lib.hid kf
          clear hv hv0 hF hz hV
          go_enter Tryz.func22, Tryz.ntmps22
          go_wp2_with fail
          refine (ck.out _ ((h.alloc _).alloc _)).mono ?_
          rintro e w1 ⟨rfl, hb1⟩
          have G1 := G0.below hb1 G0.lt
          have D1 := D0.below hb1 D0.lt
          have B1 := B0.trans (hb1.mono B0.size)
          have hE1 := h.below B1 (Nat.le_refl _)
          have hS1 := hS.below B1 (Nat.le_refl _)
          have hP1 := hP.below B1 (Nat.le_refl _)
          clear G0 D0 B0 hb1 ck h hS hP
          have g0 := Blk.cell G1 0
          have g1 := Blk.cell G1 1
          have s0 := Blk.cell D1 0
          have s1 := Blk.cell D1 1
          have s2 := Blk.cell D1 2
          have s3 := Blk.cell D1 3
          have s4 := Blk.cell D1 4
          simp at g0 g1 s0 s1 s2 s3 s4
          go_upto_region 6 with (first
            | (go_at_call 47; (with_reducible refine (kv.out _ hS1).mono ?_); rintro e w2 ⟨rfl, hw⟩; obtain rfl := hw)
            | (go_at_call 39; (with_reducible refine (kf.out _ hP1).mono ?_); rintro e w2 ⟨rfl, hb2⟩)
            | fail)
          have G2 := G1.below hb2 G1.lt
          have D2 := D1.below hb2 D1.lt
          have B2 := B1.trans (hb2.mono B1.size)
          have hE2 := hE1.below hb2 (Nat.le_refl _)
          have hS2 := hS1.below hb2 (Nat.le_refl _)
          have hP2 := hP1.below hb2 (Nat.le_refl _)
          clear G1 D1 B1 hE1 hS1 hP1 hb2 kv kf g0 g1 s0 s1 s2 s3 s4
          have g0 := Blk.cell G2 0
          have g1 := Blk.cell G2 1
          have s0 := Blk.cell D2 0
          simp at g0 g1 s0
          go_upto_region 7 with (first
            | (go_at_call 48; (with_reducible refine (kd.out _ hE2 hS2).mono ?_); rintro e w3 ⟨rfl, hb3⟩)
            | fail)
          have G3 := (G2.below hb3 G2.lt).alloc (.cells #[.int .i64 dN, .int .i64 dD] 34)
          have D3 := (D2.below hb3 D2.lt).alloc (.cells #[.int .i64 dN, .int .i64 dD] 34)
          have F3 := Blk.new w3 34 #[.int .i64 dN, .int .i64 dD]
          have B3 := (B2.trans (hb3.mono B2.size)).alloc (B2.trans (hb3.mono B2.size)).size (.cells #[.int .i64 dN, .int .i64 dD] 34)
          have hE3 := (hE2.below hb3 (Nat.le_refl _)).alloc (.cells #[.int .i64 dN, .int .i64 dD] 34)
          have hP3 := (hP2.below hb3 (Nat.le_refl _)).alloc (.cells #[.int .i64 dN, .int .i64 dD] 34)
          clear G2 D2 B2 hE2 hS2 hP2 hb3 kd g0 g1 s0
          generalize w3.alloc (.cells #[.int .i64 dN, .int .i64 dD] 34) = w4 at *
          generalize w3.heap.size = gx at *
          have g0 := Blk.cell G3 0
          have g1 := Blk.cell G3 1
          have s3 := Blk.cell D3 3
          have s4 := Blk.cell D3 4
          simp at g0 g1 s3 s4
          go_upto_region 8 with (first
            | (go_at_call 18; (with_reducible refine (kb.out _ hE3 hP3).mono ?_); rintro e w5 ⟨rfl, hb5⟩)
            | fail)
          have D5 := (D3.below hb5 D3.lt).alloc (.cells #[.int .i64 mN, .int .i64 mD] 34)
          have F5 := (F3.below hb5 F3.lt).alloc (.cells #[.int .i64 mN, .int .i64 mD] 34)
          have M5 := Blk.new w5 34 #[.int .i64 mN, .int .i64 mD]
          have B5 := (B3.trans (hb5.mono B3.size)).alloc (B3.trans (hb5.mono B3.size)).size (.cells #[.int .i64 mN, .int .i64 mD] 34)
          clear G3 D3 F3 B3 hE3 hP3 hb5 kb g0 g1 s3 s4
          generalize w5.alloc (.cells #[.int .i64 mN, .int .i64 mD] 34) = w6 at *
          generalize w5.heap.size = gm at *
          have s1 := Blk.cell D5 1
          have s2 := Blk.cell D5 2
          have x0 := Blk.cell F5 0
          have x1 := Blk.cell F5 1
          have m0 := Blk.cell M5 0
          have m1 := Blk.cell M5 1
          simp at s1 s2 x0 x1 m0 m1
          by_cases hN : dN = N
          · by_cases hD : dD = D
            · have e1 : (dN == N) = true := by simpa using hN
              have e2 : (dD == D) = true := by simpa using hD
              by_cases hC : 0 < C
              · have hv2 : Hid ((if dN ≠ N ∨ dD ≠ D ∨ 0 < C then (12 : Int) else 0) = 12) := Lib.hid (if_pos (.inr (.inr hC)))
                clear hN hD
                go_wp2_with (first | (go_at_call 49; (with_reducible refine (kc.out _).mono ?_); rintro e w7 ⟨rfl, hb7⟩) | fail)
                go_ret
                exact ⟨by rw [hR.out, hv2.out]; rfl, B5.trans (hb7.mono B5.size)⟩
              · have hv2 : Hid ((if dN ≠ N ∨ dD ≠ D ∨ 0 < C then (12 : Int) else 0) = 0) := Lib.hid (if_neg (fun h => h.elim (fun h => h hN) (fun h => h.elim (fun h => h hD) hC)))
                clear hN hD
                go_wp2_with (first | (go_at_call 49; (with_reducible refine (kc.out _).mono ?_); rintro e w7 ⟨rfl, hb7⟩) | fail)
                go_ret
                exact ⟨by rw [hR.out, hv2.out]; rfl, B5.trans (hb7.mono B5.size)⟩
            · have hv2 : Hid ((if dN ≠ N ∨ dD ≠ D ∨ 0 < C then (12 : Int) else 0) = 12) := Lib.hid (if_pos (.inr (.inl hD)))
              have e1 : (dN == N) = true := by simpa using hN
              have e2 : (dD == D) = false := by simpa using hD
              clear hN hD
              go_wp2_with fail
              go_ret
              exact ⟨by rw [hR.out, hv2.out]; rfl, B5⟩
          · have hv2 : Hid ((if dN ≠ N ∨ dD ≠ D ∨ 0 < C then (12 : Int) else 0) = 12) := Lib.hid (if_pos (.inl hN))
            have e1 : (dN == N) = false := by simpa using hN
            clear hN
            go_wp2_with fail
            go_ret
            exact ⟨by rw [hR.out, hv2.out]; rfl, B5⟩
        · rw [decide_eq_false hF] at kf
          have hv : dchk n es m l N D den ps = 4 := by unfold dchk; rw [if_pos (.inr (.inr hF))]
          rw [hv]
          replace kf := Lib.hid kf
          clear hv hv0 hF hz hV
          go_enter Tryz.func22, Tryz.ntmps22
          go_wp2_with fail
          refine (ck.out _ ((h.alloc _).alloc _)).mono ?_
          rintro e w1 ⟨rfl, hb1⟩
          have G1 := G0.below hb1 G0.lt
          have D1 := D0.below hb1 D0.lt
          have B1 := B0.trans (hb1.mono B0.size)
          have hE1 := h.below B1 (Nat.le_refl _)
          have hS1 := hS.below B1 (Nat.le_refl _)
          have hP1 := hP.below B1 (Nat.le_refl _)
          clear G0 D0 B0 hb1 ck h hS hP
          have g0 := Blk.cell G1 0
          have g1 := Blk.cell G1 1
          have s0 := Blk.cell D1 0
          have s1 := Blk.cell D1 1
          have s2 := Blk.cell D1 2
          have s3 := Blk.cell D1 3
          have s4 := Blk.cell D1 4
          simp at g0 g1 s0 s1 s2 s3 s4
          go_wp2_with (first
            | (go_at_call 47; (with_reducible refine (kv.out _ hS1).mono ?_); rintro e w2 ⟨rfl, hw⟩; obtain rfl := hw)
            | (go_at_call 39; (with_reducible refine (kf.out _ hP1).mono ?_); rintro e w2 ⟨rfl, hb2⟩)
            | fail)
          go_ret
          exact ⟨rfl, B1.trans (hb2.mono B1.size)⟩
  · have hv : dchk n es m l N D den ps = 4 := by unfold dchk; rw [if_pos (.inl hV)]
    rw [decide_eq_false hV] at kv
    rw [hv]
    replace kv := Lib.hid kv
    clear hv kf
    go_enter Tryz.func22, Tryz.ntmps22
    go_wp2_with fail
    refine (ck.out _ ((h.alloc _).alloc _)).mono ?_
    rintro e w1 ⟨rfl, hb1⟩
    have G1 := G0.below hb1 G0.lt
    have D1 := D0.below hb1 D0.lt
    have B1 := B0.trans (hb1.mono B0.size)
    have hS1 := hS.below B1 (Nat.le_refl _)
    clear G0 D0 B0 hb1 ck h hS
    have g0 := Blk.cell G1 0
    have g1 := Blk.cell G1 1
    have s0 := Blk.cell D1 0
    simp at g0 g1 s0
    go_wp2_with (first | (go_at_call 47; (with_reducible refine (kv.out _ hS1).mono ?_); rintro e w2 ⟨rfl, hw⟩; obtain rfl := hw) | fail)
    go_ret
    exact ⟨rfl, B1⟩
end Go.Proofs.YticekkjambkifaaGreatDoor.Fl

/- The example of chapter 19: hung and awake. -/
set_option linter.unusedVariables false
set_option linter.unusedSimpArgs false
namespace Go.Proofs.YticekkjambkifaaGreatDoor.Fl
open Go.RowKit Go.Proofs.YticekkjambkifaaGreatDoor CoBit CoRat Rt

theorem Blk.reads' {w : World} {g : Nat} {t : TypeId} {cs : Array Value} {xs : List Value} {n size : Nat} (h : Blk w g t cs) (hx : cs.toList = xs) (hl : xs.length = n * size) : Reads w w.heap.size size (some ⟨g, 0, none⟩) n xs := by
  refine ⟨by first | exact hl | omega, fun _ => ⟨_, rfl, h.lt, fun j u hu => ?_⟩⟩
  have hc := Blk.cell h j
  have : ((⟨g, 0, none⟩ : Addr).add j) = ⟨g, j, none⟩ := by unfold Addr.add; split <;> simp_all
  rw [this, hc]
  subst hx
  simpa using hu
theorem RI.lt' {w : World} {A : Option Addr} {n : Nat} {xs : List Int} (h : RI w A n xs) (hn : 0 < n) {ad : Addr} (e : A = some ad) : ad.block < w.heap.size := by
  obtain ⟨ad', hA', hb'⟩ := h.2 hn
  rw [e] at hA'
  injection hA' with hA'
  rw [hA']; exact hb'.1
/-- A triangle with a node that hangs on it. -/
def hungF : List (Int × Int) := [(0, 1), (0, 2), (1, 2), (2, 3)]
theorem hungF_chk : chkG (4 : Nat) hungF = 0 := by decide +kernel
theorem hung_db : DB 4 hungF 15 1 1 [1, 0, 1, 0] := by
  have hb : ∀ v, (15 : Nat).testBit v = decide (v < 4) := fun v => by
    have := allM_bit 4 v
    rwa [show allM 4 = 15 from rfl] at this
  have hm : ∀ y, y < 16 → 1 * insE hungF (bset y) ≤ 1 * pop y := by decide +kernel
  refine ⟨fun v hv => ?_, fun _ => by decide +kernel, by decide +kernel, by decide +kernel, by omega, by omega, by decide +kernel, fun y hy => hm y (mask_pow (C := 4) hy), fun y hy _ v hv => ?_, rfl, by decide +kernel, by decide +kernel⟩
  · rw [hb, decide_eq_true_eq] at hv; exact hv
  · rw [hb]; exact decide_eq_true (hy v hv)
theorem cmpF_self (a b : Int) : cmpF a b a b = 0 := by
  unfold cmpF
  split
  · rw [Int.sub_self]; rfl
  · rfl
/-- What Best finds is accepted. -/
theorem DB.chk {n : Nat} {es : List (Int × Int)} {x N D : Nat} {ps : List Int} (h : DB n es x N D ps) (hml : mkN (maxL (ldL n (D : Int) es ps)) (D : Int) = (N : Int) ∧ mkD (maxL (ldL n (D : Int) es ps)) (D : Int) = (D : Int)) (hn : n ≤ 64) (E F : Int) : dchk n es es.length (bset x) E F (D : Int) ps = if E = (N : Int) ∧ F = (D : Int) then 0 else 12 := by
  have hlen : (bset x).length = pop x := by unfold bset; rw [nts_length, pop_bl]
  have hv : Vld (bset x) n := ⟨fun y hy => by
    unfold bset nts at hy
    obtain ⟨k, hk, rfl⟩ := List.mem_map.1 hy
    have := h.sub k (mem_bl.1 hk).2
    omega, bset_sorted x⟩
  unfold dchk
  rw [if_neg, hlen, ← h.dN, ← h.dD, hml.1, hml.2, cmpF_self]
  · by_cases h1 : E = (N : Int) ∧ F = (D : Int)
    · rw [if_pos h1, if_neg]
      rintro (h2 | h2 | h2)
      · exact h2 h1.1.symm
      · exact h2 h1.2.symm
      · exact absurd h2 (Int.lt_irrefl _)
    · rw [if_neg h1, if_pos]
      by_cases h2 : (N : Int) = E
      · exact .inr (.inl fun h3 => h1 ⟨h2.symm, h3.symm⟩)
      · exact .inl h2
  · rintro (h1 | h1 | h1)
    · exact h1 hv
    · have := h.pos h1.2; rw [hlen] at h1; omega
    · refine h1 ⟨?_, ?_, h.plen, h.pbd⟩
      · have := h.D0; omega
      · have := h.lim; omega
set_option maxRecDepth 100000 in
set_option maxHeartbeats 1000000 in
theorem hung19_any (w : World) :
    Calls Tryz.prog 24 #[] w fun e w' => ∃ A, e = .returned (.agg #[.int .i64 4, .slice A 4 4]) ∧ RE w' A 4 hungF ∧ Below w.heap.size w w' := by
  go_enter Tryz.func24, Tryz.ntmps24
  go_wp2
  have hG : Blk ((w.alloc (.cells #[.int .i64 4, .slice (some ⟨w.heap.size + 1, 0, none⟩) 4 4] 24)).alloc (.cells #[.int .i64 0, .int .i64 1, .int .i64 0, .int .i64 2, .int .i64 1, .int .i64 2, .int .i64 2, .int .i64 3] 59)) w.heap.size 24 #[.int .i64 4, .slice (some ⟨w.heap.size + 1, 0, none⟩) 4 4] := (Blk.new _ _ _).alloc _
  have hE : Blk ((w.alloc (.cells #[.int .i64 4, .slice (some ⟨w.heap.size + 1, 0, none⟩) 4 4] 24)).alloc (.cells #[.int .i64 0, .int .i64 1, .int .i64 0, .int .i64 2, .int .i64 1, .int .i64 2, .int .i64 2, .int .i64 3] 59)) (w.heap.size + 1) 59 #[.int .i64 0, .int .i64 1, .int .i64 0, .int .i64 2, .int .i64 1, .int .i64 2, .int .i64 2, .int .i64 3] := by
    have := Blk.new (w.alloc (.cells #[.int .i64 4, .slice (some ⟨w.heap.size + 1, 0, none⟩) 4 4] 24)) 59 #[.int .i64 0, .int .i64 1, .int .i64 0, .int .i64 2, .int .i64 1, .int .i64 2, .int .i64 2, .int .i64 3]
    rwa [World.size_alloc] at this
  have hb : Below w.heap.size w ((w.alloc (.cells #[.int .i64 4, .slice (some ⟨w.heap.size + 1, 0, none⟩) 4 4] 24)).alloc (.cells #[.int .i64 0, .int .i64 1, .int .i64 0, .int .i64 2, .int .i64 1, .int .i64 2, .int .i64 2, .int .i64 3] 59)) := ((Below.refl _ _).alloc (Nat.le_refl _) _).alloc (by simp) _
  generalize (w.alloc (.cells #[.int .i64 4, .slice (some ⟨w.heap.size + 1, 0, none⟩) 4 4] 24)).alloc (.cells #[.int .i64 0, .int .i64 1, .int .i64 0, .int .i64 2, .int .i64 1, .int .i64 2, .int .i64 2, .int .i64 3] 59) = W at *
  have s0 := Blk.cell hG 0
  have s1 := Blk.cell hG 1
  simp at s0 s1
  refine bodyPost_ret (v := .agg #[.int .i64 4, .slice (some ⟨w.heap.size + 1, 0, none⟩) 4 4]) (by simp [results, Tryz.results24, go_sem, s0, s1]) rfl ?_
  exact ⟨_, rfl, Blk.reads' hE rfl rfl, hb⟩
set_option maxRecDepth 100000 in
set_option maxHeartbeats 8000000 in
theorem awake19_any (w : World) (hT : Tab w) :
    Calls Tryz.prog 6 #[] w fun e w' => e = .returned (.bool true) ∧ Below w.heap.size w w' := by
  have kb : ∀ A w, RE w A 4 hungF → Tab w → Calls Tryz.prog 9 #[.agg #[.int .i64 4, .slice A 4 4]] w (RetBe w 4 hungF) := fun A w h hT => best_any A 4 4 4 hungF w h hT (by omega) hungF_chk (by omega)
  have kh := Lib.hid hung19_any
  replace kb := Lib.hid kb
  go_enter Tryz.func6, Tryz.ntmps6
  go_upto_region 1 with fail
  go_upto_region 2 with (first
    | (go_at_call 24; (with_reducible refine (kh.out _).mono ?_); rintro e w1 ⟨A1, rfl, hE1, hb1⟩
       have hT1 := hT.keep hb1)
    | (go_at_call 9; (with_reducible refine (kb.out _ _ hE1 hT1).mono ?_); intro e w2 hq; obtain ⟨x, N, D, ps, AS, ns, cs, AP, np, cp, rfl, hDB, hns, hnp, hS2, hP2, hb2⟩ := hq
       obtain ⟨rfl, rfl, rfl⟩ := hDB.unique hung_db)
    | fail)
  have hns4 : ns = 4 := by have := hS2.len; rw [show (bset 15).length = 4 by decide +kernel] at this; exact this.symm
  subst hns4
  have hnp4 : np = 4 := by have := hP2.len; rw [hDB.plen] at this; exact this.symm
  subst hnp4
  have B2 := hb1.trans (hb2.mono hb1.size)
  have c1 : dchk 4 hungF 4 (bset 15) 1 1 1 ps = 0 := by
    have := hDB.chk (hDB.bound hungF_chk (by omega) (by decide)) (by omega) 1 1
    rw [if_pos ⟨rfl, rfl⟩] at this; exact this
  have c2 : dchk 4 hungF 4 (bset 15) 2 1 1 ps = 12 := by
    have := hDB.chk (hDB.bound hungF_chk (by omega) (by decide)) (by omega) 2 1
    rw [if_neg (by decide)] at this; exact this
  have k1 : ∀ A w, RE w A 4 hungF → RI w AS 4 (bset 15) → RI w AP 4 ps → Calls Tryz.prog 22 #[.agg #[.int .i64 4, .slice A 4 4], .agg #[.slice AS 4 cs, .int .i64 1, .int .i64 1, .int .i64 1, .slice AP 4 cp]] w fun e w' => e = .returned (.int .i64 0) ∧ Below w.heap.size w w' := fun A w h hS hP => by
    have := dcheck_any A 4 4 4 hungF AS 4 cs (bset 15) 1 1 1 AP 4 cp ps w h (by omega) hungF_chk (by omega) hS (by omega) hP (by omega)
    rw [c1] at this; exact this
  have k2 : ∀ A w, RE w A 4 hungF → RI w AS 4 (bset 15) → RI w AP 4 ps → Calls Tryz.prog 22 #[.agg #[.int .i64 4, .slice A 4 4], .agg #[.slice AS 4 cs, .int .i64 2, .int .i64 1, .int .i64 1, .slice AP 4 cp]] w fun e w' => e = .returned (.int .i64 12) ∧ Below w.heap.size w w' := fun A w h hS hP => by
    have := dcheck_any A 4 4 4 hungF AS 4 cs (bset 15) 2 1 1 AP 4 cp ps w h (by omega) hungF_chk (by omega) hS (by omega) hP (by omega)
    rw [c2] at this; exact this
  replace k1 := Lib.hid k1
  replace k2 := Lib.hid k2
  clear hDB c1 c2 hb1 hb2 hT1 hE1 kb hns hnp
  have D2 := (Blk.new w2 38 #[.slice AS 4 cs, .int .i64 1, .int .i64 1, .int .i64 1, .slice AP 4 cp]).alloc (.cells #[.slice AS 4 cs, .int .i64 1, .int .i64 1, .int .i64 1, .slice AP 4 cp] 38)
  have X2 : Blk ((w2.alloc (.cells #[.slice AS 4 cs, .int .i64 1, .int .i64 1, .int .i64 1, .slice AP 4 cp] 38)).alloc (.cells #[.slice AS 4 cs, .int .i64 1, .int .i64 1, .int .i64 1, .slice AP 4 cp] 38)) (w2.heap.size + 1) 38 #[.slice AS 4 cs, .int .i64 1, .int .i64 1, .int .i64 1, .slice AP 4 cp] := Blk.new' _ _ _ (by simp)
  have E0 := Blk.cell (Blk.new w2 38 #[.slice AS 4 cs, .int .i64 1, .int .i64 1, .int .i64 1, .slice AP 4 cp])
  have e0 := E0 0
  have e1 := E0 1
  have e2 := E0 2
  have e3 := E0 3
  have e4 := E0 4
  simp at e0 e1 e2 e3 e4
  have B3 := (B2.alloc B2.size (.cells #[.slice AS 4 cs, .int .i64 1, .int .i64 1, .int .i64 1, .slice AP 4 cp] 38)).alloc (by have := B2.size; simp; omega) (.cells #[.slice AS 4 cs, .int .i64 1, .int .i64 1, .int .i64 1, .slice AP 4 cp] 38)
  have hS3 := (hS2.alloc (.cells #[.slice AS 4 cs, .int .i64 1, .int .i64 1, .int .i64 1, .slice AP 4 cp] 38)).alloc (.cells #[.slice AS 4 cs, .int .i64 1, .int .i64 1, .int .i64 1, .slice AP 4 cp] 38)
  have hP3 := (hP2.alloc (.cells #[.slice AS 4 cs, .int .i64 1, .int .i64 1, .int .i64 1, .slice AP 4 cp] 38)).alloc (.cells #[.slice AS 4 cs, .int .i64 1, .int .i64 1, .int .i64 1, .slice AP 4 cp] 38)
  clear E0
  go_upto_region 3 with fail
  clear e0 e1 e2 e3 e4
  have hne : Hid (w2.heap.size ≠ w2.heap.size + 1 ∧ w.heap.size ≤ w2.heap.size + 1) := Lib.hid (by have := B2.size; omega)
  have hbl : Hid ((∀ ad, AS = some ad → ad.block ≠ w2.heap.size + 1) ∧ ∀ ad, AP = some ad → ad.block ≠ w2.heap.size + 1) := Lib.hid ⟨fun ad e => by have := RI.lt' hS2 (by omega) e; omega, fun ad e => by have := RI.lt' hP2 (by omega) e; omega⟩
  generalize (w2.alloc (.cells #[.slice AS 4 cs, .int .i64 1, .int .i64 1, .int .i64 1, .slice AP 4 cp] 38)).alloc (.cells #[.slice AS 4 cs, .int .i64 1, .int .i64 1, .int .i64 1, .slice AP 4 cp] 38) = w3 at *
  generalize w2.heap.size + 1 = gx at *
  generalize w2.heap.size = gd at *
  have x1 := Blk.cell X2 1
  have x2 := Blk.cell X2 2
  have f1 := Blk.frozen X2 1
  have f2 := Blk.frozen X2 2
  simp at x1 x2
  have X4 := Blk.set (Blk.set X2 1 (.int .i64 2)) 2 (.int .i64 1)
  simp at X4
  have D4 := Blk.far (Blk.far D2 (p := ⟨gx, 1, none⟩) hne.out.1 (.int .i64 2)) (p := ⟨gx, 2, none⟩) hne.out.1 (.int .i64 1)
  have B4 := (B3.setCell (p := ⟨gx, 1, none⟩) hne.out.2 (.int .i64 2)).setCell (p := ⟨gx, 2, none⟩) hne.out.2 (.int .i64 1)
  have hS4 := RI.farF (RI.farF hS3 1 (g := gx) hbl.out.1 (.int .i64 2)) 2 (g := gx) hbl.out.1 (.int .i64 1)
  have hP4 := RI.farF (RI.farF hP3 1 (g := gx) hbl.out.2 (.int .i64 2)) 2 (g := gx) hbl.out.2 (.int .i64 1)
  clear X2 D2 B3 hS3 hP3 B2 hS2 hP2
  go_upto_region 4 with fail
  generalize (w3.setCell ⟨gx, 1, none⟩ (.int .i64 2)).setCell ⟨gx, 2, none⟩ (.int .i64 1) = W at *
  clear x1 x2 f1 f2
  have p0 := Blk.cell D4 0
  have p1 := Blk.cell D4 1
  have p2 := Blk.cell D4 2
  have p3 := Blk.cell D4 3
  have p4 := Blk.cell D4 4
  have q0 := Blk.cell X4 0
  have q1 := Blk.cell X4 1
  have q2 := Blk.cell X4 2
  have q3 := Blk.cell X4 3
  have q4 := Blk.cell X4 4
  simp at p0 p1 p2 p3 p4 q0 q1 q2 q3 q4
  have dl := D4.lt
  have xl := X4.lt
  have kS : Hid (∀ w' : World, Below W.heap.size W w' → w'.cell? ⟨gd, 0, none⟩ = some (.slice AS 4 cs) ∧ w'.cell? ⟨gd, 1, none⟩ = some (.int .i64 1) ∧ w'.cell? ⟨gd, 2, none⟩ = some (.int .i64 1) ∧ w'.cell? ⟨gd, 3, none⟩ = some (.int .i64 1) ∧ w'.cell? ⟨gd, 4, none⟩ = some (.slice AP 4 cp) ∧ w'.cell? ⟨gx, 0, none⟩ = some (.slice AS 4 cs) ∧ w'.cell? ⟨gx, 1, none⟩ = some (.int .i64 2) ∧ w'.cell? ⟨gx, 2, none⟩ = some (.int .i64 1) ∧ w'.cell? ⟨gx, 3, none⟩ = some (.int .i64 1) ∧ w'.cell? ⟨gx, 4, none⟩ = some (.slice AP 4 cp)) := Lib.hid (fun w' hb => ⟨(hb.cell (p := ⟨gd, 0, none⟩) dl).trans p0, (hb.cell (p := ⟨gd, 1, none⟩) dl).trans p1, (hb.cell (p := ⟨gd, 2, none⟩) dl).trans p2, (hb.cell (p := ⟨gd, 3, none⟩) dl).trans p3, (hb.cell (p := ⟨gd, 4, none⟩) dl).trans p4, (hb.cell (p := ⟨gx, 0, none⟩) xl).trans q0, (hb.cell (p := ⟨gx, 1, none⟩) xl).trans q1, (hb.cell (p := ⟨gx, 2, none⟩) xl).trans q2, (hb.cell (p := ⟨gx, 3, none⟩) xl).trans q3, (hb.cell (p := ⟨gx, 4, none⟩) xl).trans q4⟩)
  have BN : Below W.heap.size W W.drew := (Below.refl W.heap.size W).drew
  have b1 : ((1 : Int) == 1) = true := rfl
  (go_region_held3 (fun w' => w'.cell? ⟨gd, 0, none⟩ = some (.slice AS 4 cs) ∧ w'.cell? ⟨gd, 1, none⟩ = some (.int .i64 1) ∧ w'.cell? ⟨gd, 2, none⟩ = some (.int .i64 1) ∧ w'.cell? ⟨gd, 3, none⟩ = some (.int .i64 1) ∧ w'.cell? ⟨gd, 4, none⟩ = some (.slice AP 4 cp) ∧ w'.cell? ⟨gx, 0, none⟩ = some (.slice AS 4 cs) ∧ w'.cell? ⟨gx, 1, none⟩ = some (.int .i64 2) ∧ w'.cell? ⟨gx, 2, none⟩ = some (.int .i64 1) ∧ w'.cell? ⟨gx, 3, none⟩ = some (.int .i64 1) ∧ w'.cell? ⟨gx, 4, none⟩ = some (.slice AP 4 cp))
    ((first | (with_reducible exact kS.out _ BN) | fail))
    ((first
      | (go_at_call 24; (with_reducible refine (kh.out _).mono ?_); rintro e w5 ⟨A5, rfl, hE5, hb5⟩
         replace BN := BN.trans (hb5.mono BN.size))
      | (go_at_call 22; (with_reducible refine (k1.out A5 _ hE5 (hS4.below BN (Nat.le_refl _)) (hP4.below BN (Nat.le_refl _))).mono ?_); rintro e w6 ⟨rfl, hb6⟩
         replace BN := BN.trans (hb6.mono BN.size))
      | (go_at_call 22; (with_reducible refine (k2.out A5 _ hE5 (hS4.below BN (Nat.le_refl _)) (hP4.below BN (Nat.le_refl _))).mono ?_); rintro e w6 ⟨rfl, hb6⟩
         replace BN := BN.trans (hb6.mono BN.size))
      | fail)))
  go_wp2_with fail
  go_ret
  exact ⟨rfl, B4.trans (BN.mono B4.size)⟩
end Go.Proofs.YticekkjambkifaaGreatDoor.Fl
