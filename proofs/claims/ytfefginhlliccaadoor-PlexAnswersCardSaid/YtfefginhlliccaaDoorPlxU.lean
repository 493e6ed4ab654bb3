/- Printed by merge.py from PlxR, PlxU. -/
import Derived.Test.YtfefginhlliccaaDoorPlxO
import Derived.Test.YtfefginhlliccaaDoorGrfD
import Derived.Test.YtfefginhlliccaaDoorMakC
import Derived.Test.YtfefginhlliccaaDoorSrtM
import Derived.Lib.QuietBelow
import Derived.Test.YtfefginhlliccaaDoorPlxE
/- Printed by merge.py from PlxQ, PlxR. -/
/- Reference 24: Is, fits, Maximal, on a valid graph. -/
set_option linter.unusedVariables false
set_option linter.unusedSimpArgs false
namespace Go.Proofs.YtfefginhlliccaaDoor.Pl
open Go.RowKit Go.Shelf CoBit CoCli Go.Proofs.YtfefginhlliccaaDoor

theorem rfnd_adj {n : Nat} {es : List (Int × Int)} (hc : chkG n es = 0) {u v : Nat} (huv : u ≠ v) : decide (rfnd n es u v < 0) = !ad (rowsL n es) u v := by
  have he : edgeP (u : Int) (v : Int) = (((min u v : Nat) : Int), ((max u v : Nat) : Int)) := by unfold edgeP; rw [show min (u : Int) v = ((min u v : Nat) : Int) by omega, show max (u : Int) v = ((max u v : Nat) : Int) by omega]
  have h1 : rfnd n es u v = fndE es (((min u v : Nat) : Int), ((max u v : Nat) : Int)) := by unfold rfnd; rw [if_pos hc, he]
  have hm : ad (rowsL n es) u v = true ↔ (((min u v : Nat) : Int), ((max u v : Nat) : Int)) ∈ es := by
    rw [ad_bit hc]
    have hlt : ∀ x y : Nat, ((x : Int), (y : Int)) ∈ es → x < y := fun x y h => by
      have := chkE_lt (chkG_zero hc).2.2 _ h
      simp at this; omega
    constructor
    · rintro (h | h)
      · have := hlt _ _ h
        rwa [show min u v = u by omega, show max u v = v by omega]
      · have := hlt _ _ h
        rwa [show min u v = v by omega, show max u v = u by omega]
    · intro h
      rcases Nat.lt_or_ge u v with h2 | h2
      · rw [show min u v = u by omega, show max u v = v by omega] at h; exact .inl h
      · rw [show min u v = v by omega, show max u v = u by omega] at h; exact .inr h
  rw [h1]
  cases h : ad (rowsL n es) u v with
  | true =>
    have h2 := hm.1 h
    unfold fndE
    cases hf : es.findIdx? (fun x => decide (x = (((min u v : Nat) : Int), ((max u v : Nat) : Int)))) with
    | some i => simp
    | none =>
      rw [List.findIdx?_eq_none_iff] at hf
      have := hf _ h2
      simp at this
  | false =>
    rw [fndE_none fun x hx hxe => ?_]
    · rfl
    · rw [hxe] at hx
      rw [hm.2 hx] at h; cases h
theorem getD_lt {S : List Nat} {i : Nat} (h : i < S.length) : S.getD i 0 = S[i] := by rw [List.getD_eq_getElem?_getD, List.getElem?_eq_getElem h]; rfl
/-- All are joined to each other. -/
def clq (a : Nat → Nat → Bool) (S : List Nat) : Prop := S.Pairwise fun u v => a u v = true
instance (a : Nat → Nat → Bool) (S : List Nat) : Decidable (clq a S) := inferInstanceAs (Decidable (S.Pairwise _))
/-- v is another node and joined to all. -/
def fit (a : Nat → Nat → Bool) (S : List Nat) (v : Nat) : Prop := ∀ u ∈ S, u ≠ v ∧ a u v = true
instance (a : Nat → Nat → Bool) (S : List Nat) (v : Nat) : Decidable (fit a S v) := inferInstanceAs (Decidable (∀ u ∈ S, u ≠ v ∧ a u v = true))
def mcl (a : Nat → Nat → Bool) (n : Nat) (S : List Nat) : Prop := clq a S ∧ S ≠ [] ∧ ∀ v, v < n → ¬ fit a S v
instance (a : Nat → Nat → Bool) (n : Nat) (S : List Nat) : Decidable (mcl a n S) := inferInstanceAs (Decidable (_ ∧ _ ∧ _))
theorem nt_get {S : List Nat} {k : Nat} {y : Int} (h : (nt S)[k]? = some y) : ∃ u, S[k]? = some u ∧ (u : Int) = y := by
  unfold nt at h
  rw [List.getElem?_map, Option.map_eq_some_iff] at h
  exact h
theorem len_le {S : List Nat} {n : Nat} (hs : S.Pairwise (· < ·)) (hn : ∀ x ∈ S, x < n) : S.length ≤ n := by
  have h2 := List.Nodup.length_le_of_subset (l₁ := S) (l₂ := List.range n) (hs.imp (fun h => Nat.ne_of_lt h)) (fun x hx => List.mem_range.2 (hn x hx))
  rwa [List.length_range] at h2

attribute [local irreducible] wpQuiet in
set_option maxRecDepth 100000 in
set_option maxHeartbeats 4000000 in
theorem r24is_any (A : Option Addr) (m c n : Nat) (es : List (Int × Int)) (A2 : Option Addr) (m2 c2 : Nat) (S : List Nat) (w : World) (hE : RE w A m es) (hm : m ≤ 274877906944) (hc : chkG n es = 0) (h2 : RI w A2 m2 (nt S)) (hs : S.Pairwise (· < ·)) (hn : ∀ x ∈ S, x < n) :
    Calls Tryd.prog 18 #[.agg #[.int .i64 n, .slice A m c], .slice A2 m2 c2] w fun e w' => e = .returned (.bool (decide (clq (ad (rowsL n es)) S))) ∧ Below w.heap.size w w' := by
  have kck := fun w h => rcheck_any A m c n es w h (by omega)
  rw [hc] at kck
  have hN := (chkG_zero hc).2.1
  have hm2 : S.length = m2 := by have := h2.len; rw [nt_length] at this; exact this
  have hml := len_le hs hn
  have kva := fun w h => valid_any A2 m2 c2 (nt S) n w h (by omega)
  rw [decide_eq_true (vld_nt hs hn)] at kva
  have kfi := fun u v w h => rfind_any A m c n es u v w h hm
  replace kck := Lib.hid kck
  replace kva := Lib.hid kva
  replace kfi := Lib.hid kfi
  have hc' := Lib.hid hc
  have hm64 : m2 ≤ 64 := by omega
  replace hm2 := Lib.hid hm2
  clear hc hn hN hml
  have hB1 : Below w.heap.size w (w.alloc (.cells #[.int .i64 n, .slice A m c] 27)) := (Below.refl _ w).alloc (Nat.le_refl _) _
  have hlt : w.heap.size < (w.alloc (.cells #[.int .i64 n, .slice A m c] 27)).heap.size := by simp
  go_enter Tryd.func18, Tryd.ntmps18
  go_wp2_with (first
    | (go_at_call 28; refine (kck.out _ (hE.alloc _)).mono ?_; rintro e w1 ⟨rfl, hb1⟩
       have bg1 := Blk.below (Blk.new w 27 #[.int .i64 n, .slice A m c]) hb1 hlt
       have g0 := Blk.cell bg1 0
       have g1 := Blk.cell bg1 1
       simp at g0 g1
       have hW1 : Below w.heap.size w w1 := hB1.trans (hb1.mono (by simp))
       have hE1 := hE.below hW1 (Nat.le_refl _)
       have hS1 := h2.below hW1 (Nat.le_refl _))
    | (go_at_call 51; refine (kva.out _ hS1).mono ?_; rintro e w2 ⟨rfl, hw⟩; obtain rfl := hw)
    | fail)
  have hlt1 := bg1.lt
  clear hb1 kck kva g0 g1 hB1 hlt
  go_loopw [5] (fun i wr => ∃ k1 : Nat, k1 ≤ m2 ∧ i = .int .i64 k1 ∧ Hid (∀ a b, a < b → b < m2 → a < k1 → ad (rowsL n es) (S.getD a 0) (S.getD b 0) = true) ∧ Below w1.heap.size w1 wr) (fun i _ => m2 - (intOf i).toNat)
  case atStart => exact ⟨0, Nat.zero_le _, rfl, Lib.hid (fun a b _ _ h => absurd h (by omega)), Below.refl _ _⟩
  case round =>
    obtain ⟨k1, hk1, rfl, hA, hbr⟩ := hrel
    by_cases hlt1' : k1 < m2
    · have i1 : (k1 : Int) < (m2 : Int) := by omega
      go_wp2_with fail
      go_loopw [6] (fun j wr => ∃ k2 : Nat, k1 < k2 ∧ k2 ≤ m2 ∧ j = .int .i64 k2 ∧ Hid (∀ b, k1 < b → b < k2 → ad (rowsL n es) (S.getD k1 0) (S.getD b 0) = true) ∧ Below w1.heap.size w1 wr) (fun j _ => m2 - (intOf j).toNat)
      case atStart => exact ⟨k1 + 1, by omega, by omega, by go_num, Lib.hid (fun b h h' => absurd h (by omega)), hbr⟩
      case round =>
        obtain ⟨k2, hk12, hk2, rfl, hA2, hbr2⟩ := hrel
        by_cases hlt2 : k2 < m2
        · have hr6 := hS1.below hbr2 (Nat.le_refl _)
          obtain ⟨ad5, y2, rfl, hy2, cy2⟩ := hr6.get hlt1'
          obtain ⟨ad5', y3, he5, hy3, cy3⟩ := hr6.get hlt2
          obtain rfl : ad5 = ad5' := Option.some.inj he5
          clear he5
          obtain ⟨u, hu, rfl⟩ := nt_get hy2.out
          obtain ⟨v, hv, rfl⟩ := nt_get hy3.out
          obtain ⟨e2, hue⟩ := List.getElem?_eq_some_iff.1 hu
          obtain ⟨e3, hve⟩ := List.getElem?_eq_some_iff.1 hv
          have huv : u < v := by have := List.pairwise_iff_getElem.1 hs k1 k2 e2 e3 hk12; rw [hue, hve] at this; exact this
          have hgu : Hid (S.getD k1 0 = u) := Lib.hid (by rw [getD_lt e2, hue])
          have hgv : Hid (S.getD k2 0 = v) := Lib.hid (by rw [getD_lt e3, hve])
          have hG6 := bg1.below hbr2 hlt1
          obtain ⟨d0, d1⟩ := blkG hG6
          have hE6 := hE1.below hbr2 (Nat.le_refl _)
          have kfi2 := kfi.out u v
          have hF := rfnd_adj hc'.out (show u ≠ v by omega)
          generalize rfnd n es u v = F at *
          have i2 : (k2 : Int) < (m2 : Int) := by omega
          have kq : ∀ dd os, Calls Tryd.prog 13 #[.agg #[.int .i64 n, .slice A m c], .int .i64 u, .int .i64 v] (Sort.grow (redrawn wr dd) os) fun e w'' => e = .returned (.int .i64 F) ∧ ∃ p : Regrown, w'' = Sort.grow (redrawn wr p.d) p.os := fun dd os => Calls.regrown_of (kfi2 _ (hE6.below (below_regrown wr dd os) (Nat.le_refl _)))
          have x0 : ∀ dd os, (Sort.grow (redrawn wr dd) os).cell? ⟨w.heap.size, 0, none⟩ = some (.int .i64 n) := fun dd os => cell_regrown d0 dd os
          have x1 : ∀ dd os, (Sort.grow (redrawn wr dd) os).cell? ⟨w.heap.size, 1, none⟩ = some (.slice A m c) := fun dd os => cell_regrown d1 dd os
          have x2 : ∀ dd os, (Sort.grow (redrawn wr dd) os).cell? (ad5.add k1) = some (.int .i64 u) := fun dd os => cell_regrown cy2 dd os
          have x3 : ∀ dd os, (Sort.grow (redrawn wr dd) os).cell? (ad5.add k2) = some (.int .i64 v) := fun dd os => cell_regrown cy3 dd os
          replace kq := Lib.hid kq
          clear kfi2 hy2 hy3 hu hv e2 e3 hue hve hr6 hG6 d0 d1 cy2 cy3
          cases hadj : ad (rowsL n es) u v with
          | true =>
            rw [hadj] at hF
            have q4 : decide (F < 0) = false := hF
            clear hF
            have hA3 : Hid (∀ b, k1 < b → b < k2 + 1 → ad (rowsL n es) (S.getD k1 0) (S.getD b 0) = true) := Lib.hid fun b h h' => by
              by_cases hb : b = k2
              · rw [hb, hgu.out, hgv.out, hadj]
              · exact hA2.out b h (by omega)
            clear hadj
            go_upto_region 9 with fail
            refine wp_region_quiet_below (by kernel_rfl) (by kernel_rfl) ?_
            repeat (quiet_step (with_reducible exact kq.out _ _))
            refine wpQuiet_nil ?_
            intro _ hw'
            obtain ⟨⟨dq, osq⟩, hw''⟩ := hw'
            subst hw''
            have hbx := hbr2.trans ((below_regrown wr dq osq).mono hbr2.size)
            go_wp2_with fail
            go_roundw
            case rel => exact ⟨k2 + 1, by omega, by omega, by go_num, hA3, hbx⟩
            case measure => simp [intOf]; omega
          | false =>
            rw [hadj] at hF
            have q4 : decide (F < 0) = true := hF
            clear hF
            have hno : Hid (¬ clq (ad (rowsL n es)) S) := Lib.hid fun h => by
              have h1 := hm2.out
              have := List.pairwise_iff_getElem.1 h k1 k2 (by omega) (by omega) hk12
              rw [← getD_lt, ← getD_lt, hgu.out, hgv.out, hadj] at this
              cases this
            clear hadj
            go_upto_region 9 with fail
            refine wp_region_quiet_below (by kernel_rfl) (by kernel_rfl) ?_
            repeat (quiet_step (with_reducible exact kq.out _ _))
            refine wpQuiet_nil ?_
            intro _ hw'
            obtain ⟨⟨dq, osq⟩, hw''⟩ := hw'
            subst hw''
            have hbx := hbr2.trans ((below_regrown wr dq osq).mono hbr2.size)
            go_wp2_with fail
            go_ret
            exact ⟨retBool (decide_eq_false hno.out).symm, hW1.trans (hbx.mono hW1.size)⟩
        · have hA3 : Hid (∀ a b, a < b → b < m2 → a < k1 + 1 → ad (rowsL n es) (S.getD a 0) (S.getD b 0) = true) := Lib.hid fun a b h h' h'' => by
            by_cases ha : a = k1
            · rw [ha]; exact hA2.out b (by omega) (by omega)
            · exact hA.out a b h h' (by omega)
          have i2 : ¬ (k2 : Int) < (m2 : Int) := by omega
          go_wp2_with fail
          go_roundw
          case rel => exact ⟨k1 + 1, by omega, by go_num, hA3, hbr2⟩
          case measure => simp [intOf]; omega
    · have hyes : Hid (clq (ad (rowsL n es)) S) := Lib.hid (List.pairwise_iff_getElem.2 fun a b ha hb hab => by
        have h1 := hm2.out
        have := hA.out a b hab (by omega) (by omega)
        rwa [getD_lt ha, getD_lt hb] at this)
      have i1 : ¬ (k1 : Int) < (m2 : Int) := by omega
      go_wp2_with fail
      go_ret
      exact ⟨retBool (decide_eq_true hyes.out).symm, hW1.trans (hbr.mono hW1.size)⟩

attribute [local irreducible] wpQuiet in
set_option maxRecDepth 100000 in
set_option maxHeartbeats 4000000 in
theorem r24fits_any (A : Option Addr) (m c n : Nat) (es : List (Int × Int)) (A2 : Option Addr) (m2 c2 : Nat) (S : List Nat) (v : Nat) (w : World) (hE : RE w A m es) (hm : m ≤ 274877906944) (hc : chkG n es = 0) (h2 : RI w A2 m2 (nt S)) (hm64 : m2 ≤ 1000) (hv64 : v ≤ 1000) :
    Calls Tryd.prog 53 #[.agg #[.int .i64 n, .slice A m c], .slice A2 m2 c2, .int .i64 v] w fun e w' => e = .returned (.bool (decide (fit (ad (rowsL n es)) S v))) ∧ Below w.heap.size w w' := by
  have hm2 : S.length = m2 := by have := h2.len; rw [nt_length] at this; exact this
  have kfi := fun u w h => rfind_any A m c n es u v w h hm
  replace kfi := Lib.hid kfi
  have hc' := Lib.hid hc
  replace hm2 := Lib.hid hm2
  clear hc
  have hB1 : Below w.heap.size w (w.alloc (.cells #[.int .i64 n, .slice A m c] 27)) := (Below.refl _ w).alloc (Nat.le_refl _) _
  have bg1 := Blk.new w 27 #[.int .i64 n, .slice A m c]
  have hE1 := hE.below hB1 (Nat.le_refl _)
  have hS1 := h2.below hB1 (Nat.le_refl _)
  have hlt1 := bg1.lt
  go_enter Tryd.func53, Tryd.ntmps53
  go_wp2_with fail
  generalize w.alloc (.cells #[.int .i64 n, .slice A m c] 27) = w1 at *
  go_loopw [7] (fun i wr => ∃ k1 : Nat, k1 ≤ m2 ∧ i = .int .i64 k1 ∧ Hid (∀ a, a < k1 → S.getD a 0 ≠ v ∧ ad (rowsL n es) (S.getD a 0) v = true) ∧ Below w1.heap.size w1 wr) (fun i _ => m2 - (intOf i).toNat)
  case atStart => exact ⟨0, Nat.zero_le _, rfl, Lib.hid (fun a h => absurd h (by omega)), Below.refl _ _⟩
  case round =>
    obtain ⟨k1, hk1, rfl, hA, hbr⟩ := hrel
    by_cases hlt1' : k1 < m2
    · have i1 : (k1 : Int) < (m2 : Int) := by omega
      have hr6 := hS1.below hbr (Nat.le_refl _)
      obtain ⟨ad5, y2, rfl, hy2, cy2⟩ := hr6.get hlt1'
      obtain ⟨u, hu, rfl⟩ := nt_get hy2.out
      obtain ⟨e2, hue⟩ := List.getElem?_eq_some_iff.1 hu
      have hgu : Hid (S.getD k1 0 = u) := Lib.hid (by rw [getD_lt e2, hue])
      have huS : u ∈ S := List.mem_of_getElem? hu
      have hG6 := bg1.below hbr hlt1
      obtain ⟨d0, d1⟩ := blkG hG6
      have hE6 := hE1.below hbr (Nat.le_refl _)
      have x0 : ∀ dd os, (Sort.grow (redrawn wr dd) os).cell? ⟨w.heap.size, 0, none⟩ = some (.int .i64 n) := fun dd os => cell_regrown d0 dd os
      have x1 : ∀ dd os, (Sort.grow (redrawn wr dd) os).cell? ⟨w.heap.size, 1, none⟩ = some (.slice A m c) := fun dd os => cell_regrown d1 dd os
      have x2 : ∀ dd os, (Sort.grow (redrawn wr dd) os).cell? (ad5.add k1) = some (.int .i64 u) := fun dd os => cell_regrown cy2 dd os
      clear hy2 hu e2 hue hr6 hG6 d0 d1 cy2
      by_cases huv : u = v
      · have hno : Hid (¬ fit (ad (rowsL n es)) S v) := Lib.hid fun h => (h u huS).1 huv
        have q1 : ((u : Int) == (v : Int)) = true := by rw [huv]; simp
        clear huv kfi
        go_upto_region 4 with fail
        refine wp_region_quiet_below (by kernel_rfl) (by kernel_rfl) ?_
        repeat (quiet_step (fail))
        refine wpQuiet_nil ?_
        intro _ hw'
        obtain ⟨⟨dq, osq⟩, hw''⟩ := hw'
        subst hw''
        have hbx := hbr.trans ((below_regrown wr dq osq).mono hbr.size)
        go_wp2_with fail
        go_ret
        exact ⟨retBool (decide_eq_false hno.out).symm, hB1.trans (hbx.mono hB1.size)⟩
      · have kfi2 := kfi.out u
        have hF := rfnd_adj hc'.out huv
        have q1 : ((u : Int) == (v : Int)) = false := by simp; omega
        generalize rfnd n es u v = F at *
        have kq : ∀ dd os, Calls Tryd.prog 13 #[.agg #[.int .i64 n, .slice A m c], .int .i64 u, .int .i64 v] (Sort.grow (redrawn wr dd) os) fun e w'' => e = .returned (.int .i64 F) ∧ ∃ p : Regrown, w'' = Sort.grow (redrawn wr p.d) p.os := fun dd os => Calls.regrown_of (kfi2 _ (hE6.below (below_regrown wr dd os) (Nat.le_refl _)))
        replace kq := Lib.hid kq
        clear kfi2
        cases hadj : ad (rowsL n es) u v with
        | true =>
          rw [hadj] at hF
          have q4 : decide (F < 0) = false := hF
          clear hF
          have hA3 : Hid (∀ a, a < k1 + 1 → S.getD a 0 ≠ v ∧ ad (rowsL n es) (S.getD a 0) v = true) := Lib.hid fun a h => by
            by_cases ha : a = k1
            · rw [ha, hgu.out]; exact ⟨huv, hadj⟩
            · exact hA.out a (by omega)
          clear hadj huv
          go_upto_region 4 with fail
          refine wp_region_quiet_below (by kernel_rfl) (by kernel_rfl) ?_
          repeat (quiet_step (with_reducible exact kq.out _ _))
          refine wpQuiet_nil ?_
          intro _ hw'
          obtain ⟨⟨dq, osq⟩, hw''⟩ := hw'
          subst hw''
          have hbx := hbr.trans ((below_regrown wr dq osq).mono hbr.size)
          go_wp2_with fail
          go_roundw
          case rel => exact ⟨k1 + 1, by omega, by go_num, hA3, hbx⟩
          case measure => simp [intOf]; omega
        | false =>
          rw [hadj] at hF
          have q4 : decide (F < 0) = true := hF
          clear hF
          have hno : Hid (¬ fit (ad (rowsL n es)) S v) := Lib.hid fun h => by
            have := (h u huS).2
            rw [hadj] at this; cases this
          clear hadj huv
          go_upto_region 4 with fail
          refine wp_region_quiet_below (by kernel_rfl) (by kernel_rfl) ?_
          repeat (quiet_step (with_reducible exact kq.out _ _))
          refine wpQuiet_nil ?_
          intro _ hw'
          obtain ⟨⟨dq, osq⟩, hw''⟩ := hw'
          subst hw''
          have hbx := hbr.trans ((below_regrown wr dq osq).mono hbr.size)
          go_wp2_with fail
          go_ret
          exact ⟨retBool (decide_eq_false hno.out).symm, hB1.trans (hbx.mono hB1.size)⟩
    · have hyes : Hid (fit (ad (rowsL n es)) S v) := Lib.hid fun u hu => by
        obtain ⟨a, ha, rfl⟩ := List.getElem_of_mem hu
        have h1 := hm2.out
        have := hA.out a (by omega)
        rwa [getD_lt ha] at this
      have i1 : ¬ (k1 : Int) < (m2 : Int) := by omega
      go_wp2_with fail
      go_ret
      exact ⟨retBool (decide_eq_true hyes.out).symm, hB1.trans (hbr.mono hB1.size)⟩

set_option maxRecDepth 100000 in
set_option maxHeartbeats 4000000 in
theorem r24max_any (A : Option Addr) (m c n : Nat) (es : List (Int × Int)) (A2 : Option Addr) (m2 c2 : Nat) (S : List Nat) (w : World) (hE : RE w A m es) (hm : m ≤ 274877906944) (hc : chkG n es = 0) (h2 : RI w A2 m2 (nt S)) (hs : S.Pairwise (· < ·)) (hn : ∀ x ∈ S, x < n) :
    Calls Tryd.prog 20 #[.agg #[.int .i64 n, .slice A m c], .slice A2 m2 c2] w fun e w' => e = .returned (.bool (decide (mcl (ad (rowsL n es)) n S))) ∧ Below w.heap.size w w' := by
  have kis := fun w h h2 => r24is_any A m c n es A2 m2 c2 S w h hm hc h2 hs hn
  have hN := (chkG_zero hc).2.1
  have hm2 : S.length = m2 := by have := h2.len; rw [nt_length] at this; exact this
  have hml := len_le hs hn
  have hm64 : m2 ≤ 64 := by omega
  have hn64 : n ≤ 64 := by omega
  have kfi := fun v w h h2 hv => r24fits_any A m c n es A2 m2 c2 S v w h hm hc h2 (by omega) hv
  replace kfi := Lib.hid kfi
  clear hc hn hN hml
  have hB1 : Below w.heap.size w (w.alloc (.cells #[.int .i64 n, .slice A m c] 27)) := (Below.refl _ w).alloc (Nat.le_refl _) _
  have hlt : w.heap.size < (w.alloc (.cells #[.int .i64 n, .slice A m c] 27)).heap.size := by simp
  cases hI : decide (clq (ad (rowsL n es)) S) with
  | false =>
    rw [hI] at kis
    have hno : Hid (¬ mcl (ad (rowsL n es)) n S) := Lib.hid fun h => by have := h.1; rw [decide_eq_false_iff_not] at hI; exact hI this
    clear hI kfi hm2
    replace kis := Lib.hid kis
    go_enter Tryd.func20, Tryd.ntmps20
    go_wp2_with (first
      | (go_at_call 18; refine (kis.out _ (hE.alloc _) (h2.alloc _)).mono ?_; rintro e w1 ⟨rfl, hb1⟩
         have hW1 : Below w.heap.size w w1 := hB1.trans (hb1.mono (by simp)))
      | fail)
    go_ret
    exact ⟨retBool (decide_eq_false hno.out).symm, hW1⟩
  | true =>
    rw [hI] at kis
    rw [decide_eq_true_iff] at hI
    replace hI := Lib.hid hI
    replace kis := Lib.hid kis
    by_cases h0 : m2 = 0
    · have hno : Hid (¬ mcl (ad (rowsL n es)) n S) := Lib.hid fun h => by have := List.length_pos_iff.2 h.2.1; omega
      have q0 : ((m2 : Int) == 0) = true := by rw [h0]; rfl
      clear h0 hm2 kfi
      go_enter Tryd.func20, Tryd.ntmps20
      go_wp2_with (first
        | (go_at_call 18; refine (kis.out _ (hE.alloc _) (h2.alloc _)).mono ?_; rintro e w1 ⟨rfl, hb1⟩
           have hW1 : Below w.heap.size w w1 := hB1.trans (hb1.mono (by simp)))
        | fail)
      go_ret
      exact ⟨retBool (decide_eq_false hno.out).symm, hW1⟩
    · have q0 : ((m2 : Int) == 0) = false := by simp; omega
      have hne : Hid (S ≠ []) := Lib.hid (List.length_pos_iff.1 (by omega))
      replace hm2 := Lib.hid hm2
      go_enter Tryd.func20, Tryd.ntmps20
      go_wp2_with (first
        | (go_at_call 18; refine (kis.out _ (hE.alloc _) (h2.alloc _)).mono ?_; rintro e w1 ⟨rfl, hb1⟩
           have hW1 : Below w.heap.size w w1 := hB1.trans (hb1.mono (by simp))
           have bg1 := Blk.below (Blk.new w 27 #[.int .i64 n, .slice A m c]) hb1 hlt
           have hE1 := hE.below hW1 (Nat.le_refl _)
           have hS1 := h2.below hW1 (Nat.le_refl _))
        | fail)
      have hlt1 := bg1.lt
      clear hb1 kis hB1 hlt h0
      go_loopw [5] (fun i wr => ∃ k1 : Nat, k1 ≤ n ∧ i = .int .i64 k1 ∧ Hid (∀ v, v < k1 → ¬ fit (ad (rowsL n es)) S v) ∧ Below w1.heap.size w1 wr) (fun i _ => n - (intOf i).toNat)
      case atStart => exact ⟨0, Nat.zero_le _, rfl, Lib.hid (fun a h => absurd h (by omega)), Below.refl _ _⟩
      case round =>
        obtain ⟨k1, hk1, rfl, hA, hbr⟩ := hrel
        have hG6 := bg1.below hbr hlt1
        obtain ⟨d0, d1⟩ := blkG hG6
        have hE6 := hE1.below hbr (Nat.le_refl _)
        have hS6 := hS1.below hbr (Nat.le_refl _)
        by_cases hlt1' : k1 < n
        · have i1 : (k1 : Int) < (n : Int) := by omega
          have kf := kfi.out k1 wr hE6 hS6 (by omega)
          cases hF : decide (fit (ad (rowsL n es)) S k1) with
          | true =>
            rw [hF] at kf
            rw [decide_eq_true_iff] at hF
            have hno : Hid (¬ mcl (ad (rowsL n es)) n S) := Lib.hid fun h => h.2.2 k1 hlt1' hF
            replace kf := Lib.hid kf
            clear hF kfi
            go_wp2_with (first | (go_at_call 53; refine kf.out.mono ?_; rintro e w2 ⟨rfl, hb2⟩) | fail)
            go_ret
            exact ⟨retBool (decide_eq_false hno.out).symm, hW1.trans ((hbr.trans (hb2.mono hbr.size)).mono hW1.size)⟩
          | false =>
            rw [hF] at kf
            rw [decide_eq_false_iff_not] at hF
            have hA3 : Hid (∀ v, v < k1 + 1 → ¬ fit (ad (rowsL n es)) S v) := Lib.hid fun v hv => by
              by_cases hvk : v = k1
              · rw [hvk]; exact hF
              · exact hA.out v (by omega)
            replace kf := Lib.hid kf
            clear hF kfi
            go_wp2_with (first | (go_at_call 53; refine kf.out.mono ?_; rintro e w2 ⟨rfl, hb2⟩) | fail)
            go_roundw
            case rel => exact ⟨k1 + 1, by omega, by go_num, hA3, hbr.trans (hb2.mono hbr.size)⟩
            case measure => simp [intOf]; omega
        · have i1 : ¬ (k1 : Int) < (n : Int) := by omega
          have hyes : Hid (mcl (ad (rowsL n es)) n S) := Lib.hid ⟨hI.out, hne.out, fun v hv => hA.out v (by omega)⟩
          go_wp2_with fail
          go_ret
          exact ⟨retBool (decide_eq_true hyes.out).symm, hW1.trans (hbr.mono hW1.size)⟩
end Go.Proofs.YtfefginhlliccaaDoor.Pl

/- Plain laws: 1-plexes are cliques. -/
set_option linter.unusedVariables false
set_option linter.unusedSimpArgs false
namespace Go.Proofs.YtfefginhlliccaaDoor.Pl
open Go.RowKit Go.Shelf CoBit CoCli Go.Proofs.YtfefginhlliccaaDoor

theorem clq_all {a : Nat → Nat → Bool} {S : List Nat} (hs : ∀ u w, a u w = a w u) (h : clq a S) {u v : Nat} (hu : u ∈ S) (hv : v ∈ S) (hne : u ≠ v) : a u v = true := by
  obtain ⟨i, hi, rfl⟩ := List.getElem_of_mem hu
  obtain ⟨j, hj, rfl⟩ := List.getElem_of_mem hv
  have hp := List.pairwise_iff_getElem.1 h
  rcases Nat.lt_trichotomy i j with h1 | h1 | h1
  · exact hp i j hi hj h1
  · subst h1; exact absurd rfl hne
  · rw [hs]; exact hp j i hj hi h1
theorem plx_one {a : Nat → Nat → Bool} {S : List Nat} (hs : ∀ u w, a u w = a w u) (hi : ∀ u, a u u = false) (hn : S.Nodup) : plx a 1 S ↔ clq a S := by
  constructor
  · intro h
    refine hn.imp_of_mem fun {u v} hu hv hne => ?_
    cases huv : a u v with
    | true => rfl
    | false =>
      have h1 := h u hu
      have h2 := List.Nodup.length_le_of_subset (l₁ := u :: v :: S.filter (a u)) (l₂ := S) (by
        rw [List.nodup_cons, List.nodup_cons]
        refine ⟨fun hm => ?_, fun hm => ?_, hn.filter _⟩
        · rw [List.mem_cons] at hm
          rcases hm with hm | hm
          · exact hne hm
          · have := (List.mem_filter.1 hm).2
            rw [hi] at this; cases this
        · have := (List.mem_filter.1 hm).2
          rw [huv] at this; cases this) (by
        intro x hx
        rw [List.mem_cons, List.mem_cons] at hx
        rcases hx with rfl | rfl | hx
        · exact hu
        · exact hv
        · exact (List.mem_filter.1 hx).1)
      unfold dgs at h1
      simp only [List.length_cons] at h2
      omega
  · intro h v hv
    have h2 := List.Nodup.length_le_of_subset (l₁ := S) (l₂ := v :: S.filter (a v)) hn (by
      intro x hx
      rw [List.mem_cons]
      by_cases hxv : x = v
      · exact .inl hxv
      · exact .inr (List.mem_filter.2 ⟨hx, clq_all hs h hv hx (fun e => hxv e.symm)⟩))
    unfold dgs
    simp only [List.length_cons] at h2
    omega
theorem mxl_one {a : Nat → Nat → Bool} {n : Nat} {S : List Nat} (hs : ∀ u w, a u w = a w u) (hi : ∀ u, a u u = false) (hn : S.Nodup) : mxl a n 1 S ↔ mcl a n S := by
  unfold mxl mcl
  rw [plx_one hs hi hn]
  constructor
  · rintro ⟨h1, h2, h3⟩
    refine ⟨h2, h1, fun v hv hf => ?_⟩
    have hvS : v ∉ S := fun hm => (hf v hm).1 rfl
    refine h3 v hv hvS ((plx_one hs hi (List.nodup_cons.2 ⟨hvS, hn⟩)).2 (List.pairwise_cons.2 ⟨fun u hu => ?_, h2⟩))
    rw [hs]; exact (hf u hu).2
  · rintro ⟨h1, h2, h3⟩
    refine ⟨h2, h1, fun v hv hvS hp => h3 v hv fun u hu => ?_⟩
    have := (plx_one hs hi (List.nodup_cons.2 ⟨hvS, hn⟩)).1 hp
    refine ⟨fun e => hvS (e ▸ hu), ?_⟩
    rw [hs]; exact (List.pairwise_cons.1 this).1 u hu
theorem plx_more {a : Nat → Nat → Bool} {k k' : Nat} {S : List Nat} (h : plx a k S) (hk : k ≤ k') : plx a k' S := fun v hv => by have := h v hv; omega
theorem plx_few {a : Nat → Nat → Bool} {k : Nat} {S : List Nat} (h : S.length ≤ k) : plx a k S := fun v hv => by omega
theorem isB_of {n : Nat} {es : List (Int × Int)} {q : Nat} (hc : chkG n es = 0) (hq : 1 ≤ q) (hq3 : q ≤ 3) {S : List Nat} (h : S.Pairwise (· < ·)) (hn : ∀ x ∈ S, x < n) : isB n es (nt S) q = decide (plx (ad (rowsL n es)) q S) := by
  unfold isB
  rw [toNat_nt, decide_eq_true (⟨hc, by omega, by omega, vld_nt h hn⟩ : chkG n es = 0 ∧ 1 ≤ (q : Int) ∧ (q : Int) ≤ 3 ∧ Vld (nt S) n), Int.toNat_natCast, Int.toNat_natCast, Bool.true_and]
theorem meet_nt {S : List Nat} (h : S.Pairwise (· < ·)) (ys : List Int) : meetL (nt S) ys = nt (S.filter fun x => decide ((x : Int) ∈ ys)) := by
  rw [meet_sorted (vld_nt h (n := S.foldl (fun a x => a + x + 1) 0) (fun x hx => ?_)).2]
  · unfold nt
    rw [List.filter_map]; rfl
  · have key : ∀ (l : List Nat) (a : Nat), a ≤ l.foldl (fun a x => a + x + 1) a := by
      intro l; induction l with
      | nil => intro a; exact Nat.le_refl _
      | cons y l ih => intro a; exact Nat.le_trans (by omega) (ih (a + y + 1))
    have : ∀ (l : List Nat) (a : Nat), x ∈ l → x < l.foldl (fun a x => a + x + 1) a := by
      intro l; induction l with
      | nil => intro a h; cases h
      | cons y l ih =>
        intro a h
        rw [List.mem_cons] at h
        rcases h with rfl | h
        · exact Nat.lt_of_lt_of_le (show x < a + x + 1 by omega) (key l _)
        · exact ih _ h
    exact this S 0 hx
end Go.Proofs.YtfefginhlliccaaDoor.Pl

/- Printed by merge.py from PlxT, PlxU. -/
/- Reference 24: grow, List, All, Same. -/
set_option linter.unusedVariables false
set_option linter.unusedSimpArgs false
namespace Go.Proofs.YtfefginhlliccaaDoor.Pl
open Go.RowKit Go.Shelf CoBit CoCli Go.Proofs.YtfefginhlliccaaDoor

/-- append of one list, laid in a new block. -/
theorem wpList_pushLO {α : Type} {E : El α} {st t : TypeId} (hst : Tryd.prog.underlying st = some (.slice t)) (hti : (Tryd.prog.info? t).map (fun i => (i.zero, i.size, i.bytes)) = some (some (.slice none 0 0), 1, 24)) {ops : Array Oper} {rest : List Oper} {o : Oper} {a : Act} {Q' : Exit → Act → World → Prop} {W : World} {H : Nat} {v : Value} {L : List (List α)} {Q : Nat → Prop} {A : Option Addr} {k c : Nat} {ys : List α}
    (hgd : o.guard = none) (s x : Operand) (ho : o.op = .call { callee := .builtin .append, args := #[s, x], argTypes := #[st, st] })
    (hs : a.eval s = v) (hx : a.eval x = .slice (some ⟨H, 0, none⟩) 1 1) (h : LO E t W v L Q) (hk : k ≤ c) (hr : RS E W A k ys) (hA : ∀ ad, A = some ad → 0 < k → some ad.block ≠ v.ownBlock) (hH : Reads W W.heap.size 1 (some ⟨H, 0, none⟩) 1 [.slice A k c]) (hn : L.length ≤ 1099511627776)
    (hK : ∀ v' w' Q2, LO E t w' v' (L ++ [ys]) Q2 → Same (fun k => v.ownBlock = some k) W w' → (∀ b, Q2 b → Q b ∨ (∃ ad, A = some ad ∧ 0 < k ∧ ad.block = b) ∨ W.heap.size ≤ b) → wpList Tryd.prog ops Q' rest (a.put o.dst v') w') :
    wpList Tryd.prog ops Q' (o :: rest) a W := by
  refine wpList_plain hgd fun K hq => ?_
  obtain ⟨v', w', Q2, hrun, h2, h3, h4⟩ := h.push (ty := o.type) hst hti hk hr hA hH hn
  unfold Oper.wp execOp
  simp only [ho, resolve, invoke, builtin, Sem.run_bind, Sem.run_pure, Result.andThen_ok, List.map_toArray, List.map_cons, List.map_nil, hs, hx, hrun]
  exact hq _ _ (hK v' w' Q2 h2 h3 h4)
theorem RE.same {A : Option Addr} {n : Nat} {es : List (Int × Int)} {ex : Nat → Prop} {W W' : World} (h : RE W A n es) (hs : Same ex W W') (hx : ∀ ad, A = some ad → 0 < n → ¬ ex ad.block) : RE W' A n es :=
  ⟨h.1, fun hp => by
    obtain ⟨ad, he, hb, hc⟩ := h.2 hp
    exact ⟨ad, he, Nat.lt_of_lt_of_le hb hs.size, fun j u hu => (World.cell?_of_block (hs.block (ad.add j).block (by rw [block_of_add]; exact hb) (by rw [block_of_add]; exact hx ad he hp))).trans (hc j u hu)⟩⟩
theorem RE.block_lt {A : Option Addr} {n : Nat} {es : List (Int × Int)} {W : World} (h : RE W A n es) (hp : 0 < n) : ∀ ad, A = some ad → ad.block < W.heap.size := fun ad e => by
  obtain ⟨ad', he, hb, _⟩ := h.2 hp
  rw [e] at he; injection he with he; rw [he]; exact hb
theorem RI.block_lt' {A : Option Addr} {n : Nat} {xs : List Int} {W : World} (h : RI W A n xs) (hp : 0 < n) : ∀ ad, A = some ad → ad.block < W.heap.size := fun ad e => by
  obtain ⟨ad', he, hb, _⟩ := h.2 hp
  rw [e] at he; injection he with he; rw [he]; exact hb
theorem LO.below {α : Type} {E : El α} {t : TypeId} {W W' : World} {v : Value} {L : List (List α)} {Q : Nat → Prop} (h : LO E t W v L Q) (hb : Below W.heap.size W W') : LO E t W' v L Q := h.keep (Same.of_below hb (Nat.le_refl _) _)

/-- What the search for cliques hands out behind p, the nodes L being left. -/
def groL (a : Nat → Nat → Bool) (n : Nat) : List Nat → List Nat → List (List Nat)
  | [], _ => []
  | v :: L, p => (if fit a p v then (if mcl a n (p ++ [v]) then [p ++ [v]] else groL a n L (p ++ [v])) else []) ++ groL a n L p
theorem range_step {j n : Nat} (h : j < n) : List.range' j (n - j) = j :: List.range' (j + 1) (n - (j + 1)) := by
  rw [show n - j = (n - (j + 1)) + 1 by omega, List.range'_succ]
/-- What grow leaves. -/
def RetGw (W : World) (L : List (List Int)) (Q : Nat → Prop) (res : List (List Int)) (r : Ending) (W' : World) : Prop :=
  ∃ v' Q', r = .returned v' ∧ LO IE 22 W' v' (L ++ res) Q' ∧ Same Q W W' ∧ ∀ b, Q' b → Q b ∨ W.heap.size ≤ b

set_option maxRecDepth 100000 in
set_option maxHeartbeats 8000000 in
theorem r24grow_any (A : Option Addr) (m c n : Nat) (es : List (Int × Int)) (hm : m ≤ 274877906944) (hc : chkG n es = 0) (mo : Nat) (hmo : mo ≤ 1000000) : ∀ (d from' : Nat), from' + d = n → ∀ (A2 : Option Addr) (m2 c2 : Nat) (p : List Nat) (v : Value) (L : List (List Int)) (Q : Nat → Prop) (w : World),
    RE w A m es → (∀ ad, A = some ad → 0 < m → ¬ Q ad.block) → RI w A2 m2 (nt p) → (∀ ad, A2 = some ad → 0 < m2 → ¬ Q ad.block) → LO IE 22 w v L Q → p.Pairwise (· < ·) → (∀ x ∈ p, x < from') → L.length + (groL (ad (rowsL n es)) n (List.range' from' d) p).length ≤ mo →
    Calls Tryd.prog 71 #[.agg #[.int .i64 n, .slice A m c], .slice A2 m2 c2, .int .i64 from', v, .int .i64 mo] w (RetGw w L Q ((groL (ad (rowsL n es)) n (List.range' from' d) p).map nt)) := by
  intro d
  induction d using Nat.strongRecOn with
  | ind d ih =>
  intro from' hfd A2 m2 c2 p v L Q w hE hA h2 hA2 hLO hs hp hmax
  have hN := (chkG_zero hc).2.1
  obtain ⟨Ao, co, hov, hco, -⟩ := hLO.len
  subst hov
  have hpl : p.length = m2 := by have := h2.len; rw [nt_length] at this; exact this
  have hm64 : m2 ≤ 64 := by have := len_le hs hp; omega
  have hB1 : Below w.heap.size w (w.alloc (.cells #[.int .i64 n, .slice A m c] 27)) := (Below.refl _ w).alloc (Nat.le_refl _) _
  have bg1 := Blk.new w 27 #[.int .i64 n, .slice A m c]
  have hE1 := hE.below hB1 (Nat.le_refl _)
  have hS1 := h2.below hB1 (Nat.le_refl _)
  have hLO1 := hLO.below hB1
  have hQlt := hLO.lt
  have hEb := fun hp => RE.block_lt hE hp
  have hSb := fun hp => RI.block_lt' h2 hp
  have hlt1 := bg1.lt
  have hz1 : (w.alloc (.cells #[.int .i64 n, .slice A m c] 27)).heap.size = w.heap.size + 1 := by simp
  have hsame1 : Same Q w (w.alloc (.cells #[.int .i64 n, .slice A m c] 27)) := Same.of_below hB1 (Nat.le_refl _) _
  have kfi := fun v w h h2 hv => r24fits_any A m c n es A2 m2 c2 p v w h hm hc h2 (by omega) hv
  replace kfi := Lib.hid kfi
  have hc' := Lib.hid hc
  have hn64 : n ≤ 64 := by omega
  have hfn : from' ≤ n := by omega
  have hdn : Hid (d = n - from') := Lib.hid (by omega)
  have hmax' := Lib.hid hmax
  have ih' := Lib.hid ih
  replace hpl := Lib.hid hpl
  clear hc hN hmax ih hLO h2 hE hfd
  go_enter Tryd.func71, Tryd.ntmps71
  go_wp2_with fail
  generalize w.alloc (.cells #[.int .i64 n, .slice A m c] 27) = w1 at *
  go_loopw [3, 11] (fun o i wr => ∃ (u : Value) (j : Nat) (pre : List (List Int)) (Qr : Nat → Prop), u = o ∧ i = .int .i64 j ∧ from' ≤ j ∧ j ≤ n ∧ LO IE 22 wr u (L ++ pre) Qr ∧ Same Q w1 wr ∧ (∀ b, Qr b → Q b ∨ w1.heap.size ≤ b) ∧ Hid ((groL (ad (rowsL n es)) n (List.range' from' d) p).map nt = pre ++ (groL (ad (rowsL n es)) n (List.range' j (n - j)) p).map nt)) (fun _ i _ => n - (intOf i).toNat)
  case atStart => exact ⟨_, from', [], Q, rfl, rfl, Nat.le_refl _, hfn, by rw [List.append_nil]; exact hLO1, Same.refl _ _, fun _ h => .inl h, Lib.hid (by rw [hdn.out]; rfl)⟩
  case round =>
    obtain ⟨u, j, pre, Qr, rfl, rfl, hj0, hj1, hLr, hSr, hQr, heq⟩ := hrel
    obtain ⟨Ar, nr, cr, hur, hnr, hcr⟩ : ∃ (Ar : Option Addr) (nr cr : Nat), u = .slice Ar nr cr ∧ Hid (nr = (L ++ pre).length) ∧ nr ≤ cr := by
      obtain ⟨Ar, cr, h1, h2, -⟩ := hLr.len
      exact ⟨Ar, _, cr, h1, Lib.hid rfl, h2⟩
    subst hur
    have hGr := hSr.blk bg1 (fun h => by have := hQlt _ h; omega)
    obtain ⟨d0, d1⟩ := blkG hGr
    have hEr := RE.same hE1 hSr hA
    have hSr2 := hSr.ri hS1 hA2
    have hlr : nr ≤ mo := by
      rw [hnr.out]
      have h1 := congrArg List.length heq.out
      rw [List.length_append, List.length_map, List.length_map] at h1
      have := hmax'.out
      rw [List.length_append]; omega
    have hszr := hSr.size
    by_cases hlt : j < n
    · have i1 : (j : Int) < (n : Int) := by omega
      have i2 : (nr : Int) ≤ (mo : Int) := by omega
      have kf := kfi.out j wr hEr hSr2 (by omega)
      have hstep := range_step hlt
      cases hF : decide (fit (ad (rowsL n es)) p j) with
      | false =>
        rw [hF] at kf
        rw [decide_eq_false_iff_not] at hF
        have heq2 : Hid ((groL (ad (rowsL n es)) n (List.range' from' d) p).map nt = pre ++ (groL (ad (rowsL n es)) n (List.range' (j + 1) (n - (j + 1))) p).map nt) := Lib.hid (by
          rw [heq.out, hstep, groL, if_neg hF]; rfl)
        replace kf := Lib.hid kf
        clear hF kfi hstep heq
        go_wp2_with (first | (go_at_call 53; refine kf.out.mono ?_; rintro e w5 ⟨rfl, hb5⟩) | fail)
        go_roundw
        case rel => exact ⟨_, j + 1, pre, Qr, rfl, by go_num, by omega, by omega, hLr.below hb5, hSr.trans (Same.of_below hb5 (Nat.le_refl _) Q) (fun _ _ h => h), hQr, heq2⟩
        case measure => simp [intOf]; omega
      | true =>
        rw [hF] at kf
        rw [decide_eq_true_iff] at hF
        have hF' := Lib.hid hF
        have hstep' := Lib.hid hstep
        have hpj : (p ++ [j]).Pairwise (· < ·) := by
          rw [List.pairwise_append]
          exact ⟨hs, List.pairwise_singleton _ _, fun a ha b hb => by rw [List.mem_singleton] at hb; subst hb; have := hp a ha; omega⟩
        have hpj1 : ∀ x ∈ p ++ [j], x < j + 1 := fun x hx => by
          rw [List.mem_append, List.mem_singleton] at hx
          rcases hx with hx | rfl
          · have := hp x hx; omega
          · omega
        replace kf := Lib.hid kf
        replace i2 := Lib.hid i2
        clear hF kfi hstep
        have i2 := i2.out
        go_upto_region 5 with (first | (go_at_call 53; refine kf.out.mono ?_; rintro e w5 ⟨rfl, hb5⟩) | fail)
        have hL5 := hLr.below hb5
        have hE5 := hEr.below hb5 (Nat.le_refl _)
        have hS5 := hSr2.below hb5 (Nat.le_refl _)
        have hG5 := hGr.below hb5 hGr.lt
        have hnl : (nt p).length ≤ 64 := by rw [nt_length]; have := hpl.out; omega
        clear hLr kf d0 d1
        go_upto_region 6 with (first
          | (at_builtin; refine wpList_push rfl _ _ rfl rfl rfl rfl ho6 (by simp; omega) (hb6.size) ?_; intro v7 w7 ho7 hb7 hg7)
          | (at_builtin; refine wpList_cat (B := w5.heap.size) (ys := []) rfl _ _ rfl rfl rfl OI.nil_ hS5 (by simp; omega) (Nat.le_refl _) ?_; intro v6 w6 ho6 hb6 hg6)
          | fail)
        have hb57 : Below w5.heap.size w5 w7 := hb6.trans hb7
        have hL7 := hL5.below hb57
        have hE7 := hE5.below hb57 (Nat.le_refl _)
        have hG7 := hG5.below hb57 hG5.lt
        have hz7 := hb57.size
        obtain ⟨A7, n7, c7, rfl, hn7, hc7, -, hr7⟩ := ho7.form
        have hfr7 := ho7.fresh hn7
        have hls7 : ([] ++ nt p ++ [(j : Int)]) = nt (p ++ [j]) := by simp [nt]
        rw [hls7] at hr7
        have hn7' : n7 ≤ 65 := by have := hr7.len; rw [nt_length, List.length_append] at this; have := hpl.out; simp at *; omega
        replace hn7 := Lib.hid hn7
        have kM := r24max_any A m c n es A7 n7 c7 (p ++ [j]) w7 hE7 hm hc'.out hr7 hpj (fun x hx => by have := hpj1 x hx; omega)
        obtain ⟨g0, g1⟩ := blkG hG7
        have hownr : ∀ k, (Value.slice Ar nr cr).ownBlock = some k → Qr k := hL7.own
        have hQr5 : ∀ k, Qr k → k < w5.heap.size := hL5.lt
        have hsz5 := hb5.size
        clear hb6 hg6 ho6 hb7 hg7 ho7 hS5 hE5 hG5 hls7
        have hSr7 : Same Q w1 w7 := (hSr.trans (Same.of_below hb5 (Nat.le_refl _) Q) (fun _ _ h => h)).trans (Same.of_below hb57 (Nat.le_refl _) Q) (fun _ _ h => h)
        have hG8l := hG7.lt
        cases hM : decide (mcl (ad (rowsL n es)) n (p ++ [j])) with
        | true =>
          rw [hM] at kM
          rw [decide_eq_true_iff] at hM
          have heq2 : Hid ((groL (ad (rowsL n es)) n (List.range' from' d) p).map nt = pre ++ [nt (p ++ [j])] ++ (groL (ad (rowsL n es)) n (List.range' (j + 1) (n - (j + 1))) p).map nt) := Lib.hid (by
            rw [heq.out, hstep'.out, groL, if_pos hF'.out, if_pos hM]; simp)
          replace kM := Lib.hid kM
          clear hM heq hstep' hF'
          go_upto_region 7 with (first | (go_at_call 20; refine kM.out.mono ?_; rintro e w8 ⟨rfl, hb8⟩) | fail)
          have hz8 := hb8.size
          have hLa : LO IE 22 (w8.alloc (.cells #[.slice A7 n7 c7] 22)) (.slice Ar nr cr) (L ++ pre) Qr := (hL7.below hb8).below ((Below.refl _ _).alloc (Nat.le_refl _) _)
          have hHa := reads_one (Blk.new w8 22 #[.slice A7 n7 c7])
          have hra := rs_ri.2 ((hr7.below hb8 (Nat.le_refl _)).alloc (.cells #[.slice A7 n7 c7] 22))
          have hAa : ∀ ad, A7 = some ad → 0 < n7 → some ad.block ≠ (Value.slice Ar nr cr).ownBlock := fun ad e hp h => by have h1 := hQr5 _ (hownr _ h.symm); have h2 := hfr7 ad e; omega
          have hlr9 : (L ++ pre).length ≤ 1099511627776 := by rw [← hnr.out]; omega
          have hSr8 : Same Q w1 (w8.alloc (.cells #[.slice A7 n7 c7] 22)) := (hSr7.trans (Same.of_below hb8 (Nat.le_refl _) Q) (fun _ _ h => h)).alloc _
          clear hL7 hr7 hE7 kM g0 g1
          go_wp2_with (first
            | (at_builtin; refine wpList_pushLO (E := IE) (st := 31) (t := 22) Tryd.underlying31 (by kernel_rfl) rfl _ _ rfl rfl rfl hLa hc7 hra hAa hHa hlr9 ?_; intro v9 w9 Q9 h9 hs9 hq9)
            | fail)
          go_roundw
          case rel =>
            refine ⟨_, j + 1, pre ++ [nt (p ++ [j])], Q9, rfl, by go_num, by omega, by omega, by rw [← List.append_assoc]; exact h9, hSr8.trans hs9 (fun k hk e => ?_), fun b hb => ?_, heq2⟩
            · rcases hQr _ (hownr _ e) with h | h
              · exact h
              · omega
            · rcases hq9 b hb with h | ⟨ad, e, _, rfl⟩ | h
              · exact hQr _ h
              · right; have h2 := hfr7 ad e; omega
              · right; simp at h; omega
          case measure => simp [intOf]; omega
        | false =>
          rw [hM] at kM
          rw [decide_eq_false_iff_not] at hM
          have heq2 : Hid ((groL (ad (rowsL n es)) n (List.range' from' d) p).map nt = pre ++ (groL (ad (rowsL n es)) n (List.range' (j + 1) (n - (j + 1))) (p ++ [j])).map nt ++ (groL (ad (rowsL n es)) n (List.range' (j + 1) (n - (j + 1))) p).map nt) := Lib.hid (by
            rw [heq.out, hstep'.out, groL, if_pos hF'.out, if_neg hM]; simp)
          replace kM := Lib.hid kM
          clear hM heq hstep' hF'
          go_upto_region 8 with (first | (go_at_call 20; refine kM.out.mono ?_; rintro e w8 ⟨rfl, hb8⟩) | fail)
          have hz8 := hb8.size
          have hSr8 : Same Q w1 w8 := hSr7.trans (Same.of_below hb8 (Nat.le_refl _) Q) (fun _ _ h => h)
          obtain ⟨f0, f1⟩ := blkG (hG7.below hb8 hG8l)
          have ihc := ih'.out (n - (j + 1)) (by have := hdn.out; omega) (j + 1) (by omega) A7 n7 c7 (p ++ [j]) (.slice Ar nr cr) (L ++ pre) Qr w8 (hE7.below hb8 (Nat.le_refl _)) (fun ad e hp h => by
            rcases hQr _ h with h1 | h1
            · exact hA ad e hp h1
            · have := hEb hp ad e; omega) (hr7.below hb8 (Nat.le_refl _)) (fun ad e hp h => by have h1 := hQr5 _ h; have h2 := hfr7 ad e; omega) (hL7.below hb8) hpj hpj1 (by
            have h1 := congrArg List.length heq2.out
            simp only [List.length_append, List.length_map] at h1
            have := hmax'.out
            rw [List.length_append]; omega)
          rw [show ((j + 1 : Nat) : Int) = (j : Int) + 1 from rfl] at ihc
          replace ihc := Lib.hid ihc
          clear hL7 hr7 hE7 kM g0 g1 ih'
          go_wp2_with (first
            | (go_at_call 71; refine ihc.out.mono ?_; rintro e w9 ⟨v9, Q9, rfl, h9, hs9, hq9⟩)
            | fail)
          go_roundw
          case rel =>
            refine ⟨_, j + 1, pre ++ (groL (ad (rowsL n es)) n (List.range' (j + 1) (n - (j + 1))) (p ++ [j])).map nt, Q9, rfl, by go_num, by omega, by omega, by rw [← List.append_assoc]; exact h9, hSr8.trans hs9 (fun k hk e => ?_), fun b hb => ?_, heq2⟩
            · rcases hQr _ e with h | h
              · exact h
              · omega
            · rcases hq9 b hb with h | h
              · exact hQr _ h
              · right; omega
          case measure => simp [intOf]; omega
    · have i1 : ¬ (j : Int) < (n : Int) := by omega
      have hend : Hid (L ++ pre = L ++ (groL (ad (rowsL n es)) n (List.range' from' d) p).map nt) := Lib.hid (by
        have := heq.out
        rw [show n - j = 0 by omega] at this
        rw [this]; simp [groL])
      go_wp2_with fail
      go_ret
      refine ⟨_, Qr, rfl, by rw [← hend.out]; exact hLr, hsame1.trans hSr (fun _ _ h => h), fun b hb => ?_⟩
      rcases hQr b hb with h | h
      · exact .inl h
      · right; omega

/-- What All says of a valid graph with few cliques. -/
theorem r24list_any (A : Option Addr) (m c n : Nat) (es : List (Int × Int)) (hm : m ≤ 274877906944) (hc : chkG n es = 0) (mo : Nat) (hmo : mo ≤ 1000000) (w : World) (hE : RE w A m es) (hmax : (groL (ad (rowsL n es)) n (List.range' 0 n) []).length ≤ mo) :
    Calls Tryd.prog 55 #[.agg #[.int .i64 n, .slice A m c], .int .i64 mo] w fun e w' => ∃ A2 n2 c2, e = .returned (.slice A2 n2 c2) ∧ n2 ≤ c2 ∧ RL IE w' A2 n2 ((groL (ad (rowsL n es)) n (List.range' 0 n) []).map nt) ∧ Below w.heap.size w w' := by
  have hB1 : Below w.heap.size w (w.alloc (.cells #[.int .i64 n, .slice A m c] 27)) := (Below.refl _ w).alloc (Nat.le_refl _) _
  have kg := r24grow_any A m c n es hm hc mo hmo n 0 (by omega) none 0 0 [] (.slice none 0 0) [] (fun _ => False) _ (hE.below hB1 (Nat.le_refl _)) (fun _ _ _ h => h) RI.none_ (fun _ _ _ h => h) LO.nil_ List.Pairwise.nil (by simp) (by simpa using hmax)
  replace kg := Lib.hid kg
  go_enter Tryd.func55, Tryd.ntmps55
  go_wp2_with (first | (go_at_call 71; refine kg.out.mono ?_; rintro e w9 ⟨v9, Q9, rfl, h9, hs9, hq9⟩) | fail)
  obtain ⟨A2, c2, rfl, hc2, hr2⟩ := h9.len
  rw [List.nil_append] at hr2 hc2
  have hb9 : Below w.heap.size w w9 := hB1.trans (hs9.below (by simp) (fun _ _ h => h))
  go_ret
  exact ⟨_, _, _, rfl, hc2, hr2, hb9⟩
theorem r24all_any (A : Option Addr) (m c n : Nat) (es : List (Int × Int)) (hm : m ≤ 274877906944) (hc : chkG n es = 0) (w : World) (hE : RE w A m es) (hmax : (groL (ad (rowsL n es)) n (List.range' 0 n) []).length ≤ 4096) :
    Calls Tryd.prog 22 #[.agg #[.int .i64 n, .slice A m c], .int .i64 4096] w (RetLL w ((groL (ad (rowsL n es)) n (List.range' 0 n) []).map nt) 0) := by
  have hB1 : Below w.heap.size w (w.alloc (.cells #[.int .i64 n, .slice A m c] 27)) := (Below.refl _ w).alloc (Nat.le_refl _) _
  have hlt : w.heap.size < (w.alloc (.cells #[.int .i64 n, .slice A m c] 27)).heap.size := by simp
  have kck := fun w h => rcheck_any A m c n es w h (by omega)
  rw [hc] at kck
  have kl := fun w h => r24list_any A m c n es hm hc 4096 (by omega) w h hmax
  replace kck := Lib.hid kck
  replace kl := Lib.hid kl
  replace hmax := Lib.hid hmax
  clear hc
  go_enter Tryd.func22, Tryd.ntmps22
  go_wp2_with (first
    | (go_at_call 28; refine (kck.out _ (hE.alloc _)).mono ?_; rintro e w1 ⟨rfl, hb1⟩
       have hW1 : Below w.heap.size w w1 := hB1.trans (hb1.mono (by simp))
       have bg1 := Blk.below (Blk.new w 27 #[.int .i64 n, .slice A m c]) hb1 hlt
       obtain ⟨g0, g1⟩ := blkG bg1)
    | (go_at_call 55; refine (kl.out _ (hE.below hW1 (Nat.le_refl _))).mono ?_; rintro e w2 ⟨A2, n2, c2, rfl, hc2, hr2, hb2⟩
       have hn2 : n2 ≤ 4096 := by have := hr2.len; rw [List.length_map] at this; have := hmax.out; omega)
    | fail)
  go_ret2
  exact ⟨A2, n2, c2, rfl, hc2, hr2, hW1.trans (hb2.mono hW1.size)⟩

attribute [local irreducible] wpQuiet in
set_option maxRecDepth 100000 in
set_option maxHeartbeats 4000000 in
theorem r24same_any (A A' : Option Addr) (n c n' c' : Nat) (L L' : List (List Int)) (w : World) (h : RL IE w A n L) (h' : RL IE w A' n' L') (hn : n ≤ 1000000000) (hn' : n' ≤ 1000000000) (hs : ∀ x ∈ L, x.length ≤ 1099511627776) (hs' : ∀ x ∈ L', x.length ≤ 1099511627776) :
    Calls Tryd.prog 23 #[.slice A n c, .slice A' n' c'] w fun e w' => e = .returned (.bool (decide (L = L'))) ∧ Below w.heap.size w w' := by
  have hl := Lib.hid h.len
  have hl' := Lib.hid h'.len
  by_cases hq : n = n'
  · have q0 : ((n : Int) == (n' : Int)) = true := by rw [hq]; simp
    have q1 : ((n : Int) != (n' : Int)) = false := by rw [hq]; simp
    replace hq := Lib.hid hq
    go_enter Tryd.func23, Tryd.ntmps23
    go_wp2_with fail
    go_loopw [5] (fun i wr => ∃ k : Nat, k ≤ n ∧ i = .int .i64 k ∧ Hid (L.take k = L'.take k) ∧ Below w.heap.size w wr) (fun i _ => n - (intOf i).toNat)
    case atStart => exact ⟨0, Nat.zero_le _, rfl, Lib.hid rfl, Below.refl _ _⟩
    case round =>
      obtain ⟨k, hk, rfl, hx, hb⟩ := hrel
      by_cases hlt : k < n
      · have i1 : (k : Int) < (n : Int) := by omega
        have i2 : (k : Int) < (n' : Int) := by have := hq.out; omega
        obtain ⟨ad, B, m1, d1, ys, rfl, hc1, hy, hk1, hr1, _⟩ := (h.below hb (Nat.le_refl _)).get hlt
        obtain ⟨ad', B', m1', d1', ys', rfl, hc1', hy', hk1', hr1', _⟩ := (h'.below hb (Nat.le_refl _)).get (show k < n' by have := hq.out; omega)
        have hr1 := rs_ri.1 hr1
        have hr1' := rs_ri.1 hr1'
        have hm1 : m1 ≤ 1099511627776 := by rw [← hr1.len]; exact hs _ (List.mem_of_getElem? hy.out)
        have hm1' : m1' ≤ 1099511627776 := by rw [← hr1'.len]; exact hs' _ (List.mem_of_getElem? hy'.out)
        have kc := fun w h h' => cmp2_any B B' m1 d1 m1' d1' ys ys' w h hm1 h' hm1'
        have kq : ∀ dd os, Calls Tryd.prog 25 #[.slice B m1 d1, .slice B' m1' d1'] (Sort.grow (redrawn wr dd) os) fun e w'' => e = .returned (.int .i64 (cmpL ys ys')) ∧ ∃ p : Regrown, w'' = Sort.grow (redrawn wr p.d) p.os := fun dd os => Calls.regrown_of ((kc _ (hr1.below (below_regrown wr dd os) (Nat.le_refl _)) (hr1'.below (below_regrown wr dd os) (Nat.le_refl _))).mono (by rintro e w' ⟨rfl, q, rfl⟩; exact ⟨rfl, below_drewN (Below.refl _ _) q⟩))
        have x2 : ∀ dd os, (Sort.grow (redrawn wr dd) os).cell? (ad.add k) = some (.slice B m1 d1) := fun dd os => cell_regrown hc1 dd os
        have x3 : ∀ dd os, (Sort.grow (redrawn wr dd) os).cell? (ad'.add k) = some (.slice B' m1' d1') := fun dd os => cell_regrown hc1' dd os
        by_cases he : ys = ys'
        · have hz : cmpL ys ys' = 0 := (cmp_zero _ _).2 he
          rw [hz] at kq
          have hx2 : Hid (L.take (k + 1) = L'.take (k + 1)) := Lib.hid (by
            rw [List.take_add_one, List.take_add_one, hx.out, hy.out, hy'.out, he])
          replace kq := Lib.hid kq
          clear hz he hc1 hc1' hr1 hr1' kc hy hy' hx
          go_upto_region 6 with fail
          refine wp_region_quiet_below (by kernel_rfl) (by kernel_rfl) ?_
          repeat (quiet_step (with_reducible exact kq.out _ _))
          refine wpQuiet_nil ?_
          intro _ hw'
          obtain ⟨⟨dq, osq⟩, hw''⟩ := hw'
          subst hw''
          have hbx := hb.trans ((below_regrown wr dq osq).mono hb.size)
          go_wp2_with fail
          go_roundw
          case rel => exact ⟨k + 1, by omega, by go_num, hx2, hbx⟩
          case measure => simp [intOf]; omega
        · have hz : cmpL ys ys' ≠ 0 := fun h => he ((cmp_zero _ _).1 h)
          have hno : Hid (L ≠ L') := Lib.hid fun h => he (by have h1 := hy.out; have h2 := hy'.out; rw [h, h2] at h1; injection h1 with h1; exact h1.symm)
          generalize cmpL ys ys' = z at *
          have hz1 : (z != 0) = true := by simpa using hz
          replace kq := Lib.hid kq
          clear hz he hc1 hc1' hr1 hr1' kc hy hy' hx
          go_upto_region 6 with fail
          refine wp_region_quiet_below (by kernel_rfl) (by kernel_rfl) ?_
          repeat (quiet_step (with_reducible exact kq.out _ _))
          refine wpQuiet_nil ?_
          intro _ hw'
          obtain ⟨⟨dq, osq⟩, hw''⟩ := hw'
          subst hw''
          have hbx := hb.trans ((below_regrown wr dq osq).mono hb.size)
          go_wp2_with fail
          go_ret
          exact ⟨retBool (decide_eq_false hno.out).symm, hbx⟩
      · have i1 : ¬ (k : Int) < (n : Int) := by omega
        have hyes : Hid (L = L') := Lib.hid (by
          have h1 := hx.out
          have h2 := hl.out
          have h3 := hl'.out
          have h4 := hq.out
          rwa [List.take_of_length_le (by omega), List.take_of_length_le (by omega)] at h1)
        go_wp2_with fail
        go_ret
        exact ⟨retBool (decide_eq_true hyes.out).symm, hb⟩
  · have q1 : ((n : Int) != (n' : Int)) = true := by simp; omega
    have hno : Hid (L ≠ L') := Lib.hid fun h => hq (by rw [← hl.out, ← hl'.out, h])
    clear hq
    go_enter Tryd.func23, Tryd.ntmps23
    go_wp2_with fail
    go_ret
    exact ⟨retBool (decide_eq_false hno.out).symm, Below.refl _ _⟩
end Go.Proofs.YtfefginhlliccaaDoor.Pl

/- Plain laws of PlexCliques. -/
set_option linter.unusedVariables false
set_option linter.unusedSimpArgs false
namespace Go.Proofs.YtfefginhlliccaaDoor.Pl
open Go.RowKit Go.Shelf CoBit CoCli Go.Proofs.YtfefginhlliccaaDoor

theorem gro_eq {a : Nat → Nat → Bool} {n : Nat} : ∀ (L p : List Nat), (p ++ L).Nodup → (∀ v ∈ L, v < n) → clq a p → groL a n L p = (ext p L).filter fun S => decide (mcl a n S) := by
  intro L
  induction L with
  | nil => intros; rfl
  | cons v L ih =>
    intro p hnd hn hp
    have hvp : v ∉ p := fun h => (List.nodup_append.1 hnd).2.2 v h v List.mem_cons_self rfl
    have hnd1 : (p ++ L).Nodup := hnd.sublist (List.Sublist.append_left (List.sublist_cons_self v L) p)
    have hnd2 : (p ++ [v] ++ L).Nodup := by simpa using hnd
    rw [groL, ext_cons, List.filter_append, ih p hnd1 (fun u hu => hn u (List.mem_cons_of_mem _ hu)) hp]
    congr 1
    by_cases hf : fit a p v
    · have hpv : clq a (p ++ [v]) := List.pairwise_append.2 ⟨hp, List.pairwise_singleton _ _, fun u hu b hb => by rw [List.mem_singleton] at hb; subst hb; exact (hf u hu).2⟩
      rw [if_pos hf]
      unfold lx
      rw [List.filter_cons]
      by_cases hm : mcl a n (p ++ [v])
      · rw [if_pos hm, if_pos (decide_eq_true hm), filter_none (l := ext (p ++ [v]) L)]
        intro S hS
        obtain ⟨T, hT, rfl, hsub⟩ := mem_ext hS
        refine decide_eq_false fun hS => ?_
        cases T with
        | nil => exact hT rfl
        | cons t T =>
          have ht : t ∈ L := hsub.subset List.mem_cons_self
          refine hm.2.2 t (hn t (List.mem_cons_of_mem _ ht)) fun u hu => ⟨fun e => ?_, ?_⟩
          · subst e; exact (List.nodup_append.1 hnd2).2.2 u hu u ht rfl
          · exact (List.pairwise_append.1 hS.1).2.2 u hu t List.mem_cons_self
      · rw [if_neg hm, if_neg (by simpa using hm)]
        exact ih (p ++ [v]) hnd2 (fun u hu => hn u (List.mem_cons_of_mem _ hu)) hpv
    · rw [if_neg hf]
      refine (filter_none fun S hS => ?_).symm
      obtain ⟨T, rfl, _⟩ := mem_lx.1 hS
      refine decide_eq_false fun hS => hf fun u hu => ⟨fun e => hvp (e ▸ hu), ?_⟩
      have h1 := (List.pairwise_append.1 hS.1).1
      exact (List.pairwise_append.1 h1).2.2 u hu v (List.mem_singleton.2 rfl)
theorem gro_plexs {n : Nat} {es : List (Int × Int)} (hc : chkG n es = 0) : groL (ad (rowsL n es)) n (List.range' 0 n) [] = plexs n es 1 1 [] := by
  rw [← List.range_eq_range', gro_eq (List.range n) [] (by simpa using List.nodup_range) (fun v hv => List.mem_range.1 hv) List.Pairwise.nil]
  unfold plexs lx
  rw [List.filter_cons, if_neg (by unfold want; simp)]
  refine List.filter_congr fun S hS => ?_
  obtain ⟨h1, h2⟩ := sub_range (n := n) (S := S) (List.mem_cons_of_mem _ hS)
  have hnd : S.Nodup := h1.imp (fun h => Nat.ne_of_lt h)
  obtain ⟨T, hT, e, _⟩ := mem_ext hS
  have hne : S ≠ [] := by rw [e]; simpa using hT
  have hl : 1 ≤ S.length := List.length_pos_iff.2 hne
  unfold want
  rw [gt_nil hne, decide_eq_true hl, Bool.true_and, Bool.and_true]
  exact decide_eq_decide.2 (mxl_one (ad_sym hc) (ad_not hc) hnd).symm
theorem mem_plexs_of {n : Nat} {es : List (Int × Int)} {k least : Nat} {S : List Nat} (h1 : S.Pairwise (· < ·)) (h2 : ∀ x ∈ S, x < n) (h3 : least ≤ S.length) (h4 : mxl (ad (rowsL n es)) n k S) : S ∈ plexs n es k least [] := by
  unfold plexs
  rw [List.mem_filter, Bool.and_eq_true]
  refine ⟨mem_lx.2 ⟨S, rfl, ?_⟩, ?_, gt_nil h4.1⟩
  · have : S = (List.range n).filter fun i => decide (i ∈ S) := nat_sorted_ext h1 (List.pairwise_lt_range.filter _) fun i => by
      rw [List.mem_filter, List.mem_range, decide_eq_true_iff]
      exact ⟨fun h => ⟨h2 i h, h⟩, fun h => h.2⟩
    rw [this]; exact List.filter_sublist
  · unfold want
    rw [decide_eq_true h3, decide_eq_true h4]; rfl
theorem nodup_le {S : List Nat} {n : Nat} (hs : S.Nodup) (hn : ∀ x ∈ S, x < n) : S.length ≤ n := by
  have h2 := List.Nodup.length_le_of_subset (l₁ := S) (l₂ := List.range n) hs (fun x hx => List.mem_range.2 (hn x hx))
  rwa [List.length_range] at h2
theorem ext_max {a : Nat → Nat → Bool} {n k : Nat} : ∀ (d : Nat) (S : List Nat), n - S.length ≤ d → S.Nodup → (∀ x ∈ S, x < n) → plx a k S → S ≠ [] → ∃ T : List Nat, T.Nodup ∧ (∀ x ∈ T, x < n) ∧ (∀ x ∈ S, x ∈ T) ∧ mxl a n k T := by
  intro d
  induction d with
  | zero =>
    intro S hd hs hn hp hne
    refine ⟨S, hs, hn, fun _ h => h, hne, hp, fun v hv hvS _ => ?_⟩
    have := nodup_le (S := v :: S) (List.nodup_cons.2 ⟨hvS, hs⟩) (n := n) (fun x hx => by
      rw [List.mem_cons] at hx
      rcases hx with rfl | hx
      · exact hv
      · exact hn x hx)
    simp at this; omega
  | succ d ih =>
    intro S hd hs hn hp hne
    by_cases h : ∃ v, v < n ∧ v ∉ S ∧ plx a k (v :: S)
    · obtain ⟨v, hv, hvS, hpv⟩ := h
      obtain ⟨T, t1, t2, t3, t4⟩ := ih (v :: S) (by simp; omega) (List.nodup_cons.2 ⟨hvS, hs⟩) (fun x hx => by
        rw [List.mem_cons] at hx
        rcases hx with rfl | hx
        · exact hv
        · exact hn x hx) hpv (by simp)
      exact ⟨T, t1, t2, fun x hx => t3 x (List.mem_cons_of_mem _ hx), t4⟩
    · exact ⟨S, hs, hn, fun _ h => h, hne, hp, fun v hv hvS hpv => h ⟨v, hv, hvS, hpv⟩⟩
theorem mxl_perm {a : Nat → Nat → Bool} {n k : Nat} {S S' : List Nat} (h : S.Perm S') (hm : mxl a n k S) : mxl a n k S' := by
  refine ⟨fun e => hm.1 (by subst e; exact h.eq_nil), (plx_perm h).1 hm.2.1, fun v hv hvS hp => hm.2.2 v hv (fun hx => hvS (h.mem_iff.1 hx)) ((plx_perm (h.cons v)).2 hp)⟩
/-- Every maximal clique lies in a maximal k-plex. -/
theorem in_some {n : Nat} {es : List (Int × Int)} (hc : chkG n es = 0) {q : Nat} (hq : 1 ≤ q) {x : List Nat} (hx : x ∈ plexs n es 1 1 []) : ∃ y ∈ plexs n es q 1 [], ∀ v ∈ nt x, v ∈ nt y := by
  obtain ⟨a1, a2, a3, a4, _⟩ := mem_plexs hx
  obtain ⟨T, t1, t2, t3, t4⟩ := ext_max n x (by omega) (a1.imp (fun h => Nat.ne_of_lt h)) a2 (plx_more a4.2.1 hq) a4.1
  have hperm : T.Perm ((List.range n).filter fun i => decide (i ∈ T)) := (List.perm_ext_iff_of_nodup t1 (List.nodup_range.filter _)).2 fun i => by
    rw [List.mem_filter, List.mem_range, decide_eq_true_iff]
    exact ⟨fun h => ⟨t2 i h, h⟩, fun h => h.2⟩
  have hm := mxl_perm hperm t4
  refine ⟨_, mem_plexs_of (List.pairwise_lt_range.filter _) (fun y hy => List.mem_range.1 (List.mem_filter.1 hy).1) (List.length_pos_iff.2 hm.1) hm, fun v hv => ?_⟩
  unfold nt at hv
  rw [List.mem_map] at hv
  obtain ⟨u, hu, rfl⟩ := hv
  exact mem_nt.2 (List.mem_filter.2 ⟨List.mem_range.2 (a2 u hu), decide_eq_true (t3 u hu)⟩)
theorem plexs_least {n : Nat} {es : List (Int × Int)} {q p : Nat} (hp : 1 ≤ p) : plexs n es q p [] = (plexs n es q 1 []).filter fun S => decide (p ≤ S.length) := by
  unfold plexs
  rw [List.filter_filter]
  refine List.filter_congr fun S _ => ?_
  unfold want
  by_cases h : p ≤ S.length
  · rw [decide_eq_true h, decide_eq_true (show 1 ≤ S.length by omega)]; simp
  · rw [decide_eq_false h]; simp
theorem in_core {n : Nat} {es : List (Int × Int)} (hc : chkG n es = 0) {q p : Nat} {lr : List Int} (hr : CoreL n es ((p : Int) - (q : Int)) lr) {y : List Nat} (hy : y ∈ plexs n es q 1 []) (hl : p ≤ y.length) : ∀ v ∈ nt y, v ∈ lr := by
  obtain ⟨a1, a2, a3, a4, _⟩ := mem_plexs hy
  intro v hv
  unfold nt at hv
  rw [List.mem_map] at hv
  obtain ⟨u, hu, rfl⟩ := hv
  exact ((hr.1 hc).2 _).2 (plex_core hc (by have := (chkG_zero hc).2.1; omega) a1 a2 a4.2.1 hl hu)
/-- How many of the first i have enough nodes. -/
def few (L : List (List Nat)) (p i : Nat) : Nat := ((L.take i).filter fun S => decide (p ≤ S.length)).length
theorem few_step {L : List (List Nat)} {p i : Nat} {S : List Nat} (h : L[i]? = some S) : few L p (i + 1) = few L p i + if p ≤ S.length then 1 else 0 := by
  unfold few
  rw [List.take_add_one, h, List.filter_append, List.length_append]
  by_cases hp : p ≤ S.length
  · rw [if_pos hp]; simp [hp]
  · rw [if_neg hp]; simp [hp]
theorem few_at {L : List (List Nat)} {p i : Nat} {S : List Nat} (h : L[i]? = some S) (hp : p ≤ S.length) : (L.filter fun S => decide (p ≤ S.length))[few L p i]? = some S := by
  obtain ⟨hi, hS⟩ := List.getElem?_eq_some_iff.1 h
  have e : (L.filter fun S => decide (p ≤ S.length)) = ((L.take i).filter fun S => decide (p ≤ S.length)) ++ ((L.drop i).filter fun S => decide (p ≤ S.length)) := by rw [← List.filter_append, List.take_append_drop]
  rw [e]
  unfold few
  rw [List.getElem?_append_right (Nat.le_refl _), Nat.sub_self, List.drop_eq_getElem_cons hi, hS, List.filter_cons, if_pos (decide_eq_true hp)]; rfl
theorem few_all (L : List (List Nat)) (p : Nat) : few L p L.length = (L.filter fun S => decide (p ≤ S.length)).length := by unfold few; rw [List.take_length]
end Go.Proofs.YtfefginhlliccaaDoor.Pl
