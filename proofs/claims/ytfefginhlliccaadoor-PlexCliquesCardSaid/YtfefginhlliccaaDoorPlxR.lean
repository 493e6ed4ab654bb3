/- Printed by merge.py from PlxQ, PlxR. -/
import Derived.Test.YtfefginhlliccaaDoorPlxO
import Derived.Test.YtfefginhlliccaaDoorGrfD
import Derived.Test.YtfefginhlliccaaDoorMakC
import Derived.Test.YtfefginhlliccaaDoorSrtM
import Derived.Lib.QuietBelow
/- Reference 24: Is, fits, Maximal, on a valid graph. -/
set_option linter.unusedVariables false
set_option linter.unusedSimpArgs false
namespace Go.Proofs.YtfefginhlliccaaDoor.Pl
open Go.RowKit Go.Shelf CoBit CoCli Go.Proofs.YtfefginhlliccaaDoor

theorem rfnd_adj {n : Nat} {es : List (Int × Int)} (hc : chkG n es = 0) {u v : Nat} (huv : u ≠ v) : decide (rfnd n es u v < 0) = !ad (rowsL n es) u v := by
  have he : edgeP (u : Int) (v : Int) = (((min u v : Nat) : Int), ((max u v : Nat) : Int)) := by unfold edgeP; rw [show min (u : Int) v = ((min u v : Nat) : Int) by omega, show max (u : Int) v = ((max u v : Nat) : Int) by omega]
  have h1 : rfnd n es u v = fndE es (((min u v : Nat) : Int), ((max u v : Nat) : Int)) := by unfold rfnd; rw [if_pos hc, he]
  have hm : ad (rowsL n es) u v = true ↔ (((min u v : Nat) : Int), ((max u v : Nat) : Int)) ∈ es := by
    rw [ad_bit hc]
    have hlt : ∀ x y : Nat, ((x : Int), (y : Int)) ∈ es → x < y := fun x y h => by
      have := chkE_lt (chkG_zero hc).2.2 _ h
      simp at this; omega
    constructor
    · rintro (h | h)
      · have := hlt _ _ h
        rwa [show min u v = u by omega, show max u v = v by omega]
      · have := hlt _ _ h
        rwa [show min u v = v by omega, show max u v = u by omega]
    · intro h
      rcases Nat.lt_or_ge u v with h2 | h2
      · rw [show min u v = u by omega, show max u v = v by omega] at h; exact .inl h
      · rw [show min u v = v by omega, show max u v = u by omega] at h; exact .inr h
  rw [h1]
  cases h : ad (rowsL n es) u v with
  | true =>
    have h2 := hm.1 h
    unfold fndE
    cases hf : es.findIdx? (fun x => decide (x = (((min u v : Nat) : Int), ((max u v : Nat) : Int)))) with
    | some i => simp
    | none =>
      rw [List.findIdx?_eq_none_iff] at hf
      have := hf _ h2
      simp at this
  | false =>
    rw [fndE_none fun x hx hxe => ?_]
    · rfl
    · rw [hxe] at hx
      rw [hm.2 hx] at h; cases h
theorem getD_lt {S : List Nat} {i : Nat} (h : i < S.length) : S.getD i 0 = S[i] := by rw [List.getD_eq_getElem?_getD, List.getElem?_eq_getElem h]; rfl
/-- All are joined to each other. -/
def clq (a : Nat → Nat → Bool) (S : List Nat) : Prop := S.Pairwise fun u v => a u v = true
instance (a : Nat → Nat → Bool) (S : List Nat) : Decidable (clq a S) := inferInstanceAs (Decidable (S.Pairwise _))
/-- v is another node and joined to all. -/
def fit (a : Nat → Nat → Bool) (S : List Nat) (v : Nat) : Prop := ∀ u ∈ S, u ≠ v ∧ a u v = true
instance (a : Nat → Nat → Bool) (S : List Nat) (v : Nat) : Decidable (fit a S v) := inferInstanceAs (Decidable (∀ u ∈ S, u ≠ v ∧ a u v = true))
def mcl (a : Nat → Nat → Bool) (n : Nat) (S : List Nat) : Prop := clq a S ∧ S ≠ [] ∧ ∀ v, v < n → ¬ fit a S v
instance (a : Nat → Nat → Bool) (n : Nat) (S : List Nat) : Decidable (mcl a n S) := inferInstanceAs (Decidable (_ ∧ _ ∧ _))
theorem nt_get {S : List Nat} {k : Nat} {y : Int} (h : (nt S)[k]? = some y) : ∃ u, S[k]? = some u ∧ (u : Int) = y := by
  unfold nt at h
  rw [List.getElem?_map, Option.map_eq_some_iff] at h
  exact h
theorem len_le {S : List Nat} {n : Nat} (hs : S.Pairwise (· < ·)) (hn : ∀ x ∈ S, x < n) : S.length ≤ n := by
  have h2 := List.Nodup.length_le_of_subset (l₁ := S) (l₂ := List.range n) (hs.imp (fun h => Nat.ne_of_lt h)) (fun x hx => List.mem_range.2 (hn x hx))
  rwa [List.length_range] at h2

attribute [local irreducible] wpQuiet in
set_option maxRecDepth 100000 in
set_option maxHeartbeats 4000000 in
theorem r24is_any (A : Option Addr) (m c n : Nat) (es : List (Int × Int)) (A2 : Option Addr) (m2 c2 : Nat) (S : List Nat) (w : World) (hE : RE w A m es) (hm : m ≤ 274877906944) (hc : chkG n es = 0) (h2 : RI w A2 m2 (nt S)) (hs : S.Pairwise (· < ·)) (hn : ∀ x ∈ S, x < n) :
    Calls Tryd.prog 18 #[.agg #[.int .i64 n, .slice A m c], .slice A2 m2 c2] w fun e w' => e = .returned (.bool (decide (clq (ad (rowsL n es)) S))) ∧ Below w.heap.size w w' := by
  have kck := fun w h => rcheck_any A m c n es w h (by omega)
  rw [hc] at kck
  have hN := (chkG_zero hc).2.1
  have hm2 : S.length = m2 := by have := h2.len; rw [nt_length] at this; exact this
  have hml := len_le hs hn
  have kva := fun w h => valid_any A2 m2 c2 (nt S) n w h (by omega)
  rw [decide_eq_true (vld_nt hs hn)] at kva
  have kfi := fun u v w h => rfind_any A m c n es u v w h hm
  replace kck := Lib.hid kck
  replace kva := Lib.hid kva
  replace kfi := Lib.hid kfi
  have hc' := Lib.hid hc
  have hm64 : m2 ≤ 64 := by omega
  replace hm2 := Lib.hid hm2
  clear hc hn hN hml
  have hB1 : Below w.heap.size w (w.alloc (.cells #[.int .i64 n, .slice A m c] 27)) := (Below.refl _ w).alloc (Nat.le_refl _) _
  have hlt : w.heap.size < (w.alloc (.cells #[.int .i64 n, .slice A m c] 27)).heap.size := by simp
  go_enter Tryd.func18, Tryd.ntmps18
  go_wp2_with (first
    | (go_at_call 28; refine (kck.out _ (hE.alloc _)).mono ?_; rintro e w1 ⟨rfl, hb1⟩
       have bg1 := Blk.below (Blk.new w 27 #[.int .i64 n, .slice A m c]) hb1 hlt
       have g0 := Blk.cell bg1 0
       have g1 := Blk.cell bg1 1
       simp at g0 g1
       have hW1 : Below w.heap.size w w1 := hB1.trans (hb1.mono (by simp))
       have hE1 := hE.below hW1 (Nat.le_refl _)
       have hS1 := h2.below hW1 (Nat.le_refl _))
    | (go_at_call 51; refine (kva.out _ hS1).mono ?_; rintro e w2 ⟨rfl, hw⟩; obtain rfl := hw)
    | fail)
  have hlt1 := bg1.lt
  clear hb1 kck kva g0 g1 hB1 hlt
  go_loopw [5] (fun i wr => ∃ k1 : Nat, k1 ≤ m2 ∧ i = .int .i64 k1 ∧ Hid (∀ a b, a < b → b < m2 → a < k1 → ad (rowsL n es) (S.getD a 0) (S.getD b 0) = true) ∧ Below w1.heap.size w1 wr) (fun i _ => m2 - (intOf i).toNat)
  case atStart => exact ⟨0, Nat.zero_le _, rfl, Lib.hid (fun a b _ _ h => absurd h (by omega)), Below.refl _ _⟩
  case round =>
    obtain ⟨k1, hk1, rfl, hA, hbr⟩ := hrel
    by_cases hlt1' : k1 < m2
    · have i1 : (k1 : Int) < (m2 : Int) := by omega
      go_wp2_with fail
      go_loopw [6] (fun j wr => ∃ k2 : Nat, k1 < k2 ∧ k2 ≤ m2 ∧ j = .int .i64 k2 ∧ Hid (∀ b, k1 < b → b < k2 → ad (rowsL n es) (S.getD k1 0) (S.getD b 0) = true) ∧ Below w1.heap.size w1 wr) (fun j _ => m2 - (intOf j).toNat)
      case atStart => exact ⟨k1 + 1, by omega, by omega, by go_num, Lib.hid (fun b h h' => absurd h (by omega)), hbr⟩
      case round =>
        obtain ⟨k2, hk12, hk2, rfl, hA2, hbr2⟩ := hrel
        by_cases hlt2 : k2 < m2
        · have hr6 := hS1.below hbr2 (Nat.le_refl _)
          obtain ⟨ad5, y2, rfl, hy2, cy2⟩ := hr6.get hlt1'
          obtain ⟨ad5', y3, he5, hy3, cy3⟩ := hr6.get hlt2
          obtain rfl : ad5 = ad5' := Option.some.inj he5
          clear he5
          obtain ⟨u, hu, rfl⟩ := nt_get hy2.out
          obtain ⟨v, hv, rfl⟩ := nt_get hy3.out
          obtain ⟨e2, hue⟩ := List.getElem?_eq_some_iff.1 hu
          obtain ⟨e3, hve⟩ := List.getElem?_eq_some_iff.1 hv
          have huv : u < v := by have := List.pairwise_iff_getElem.1 hs k1 k2 e2 e3 hk12; rw [hue, hve] at this; exact this
          have hgu : Hid (S.getD k1 0 = u) := Lib.hid (by rw [getD_lt e2, hue])
          have hgv : Hid (S.getD k2 0 = v) := Lib.hid (by rw [getD_lt e3, hve])
          have hG6 := bg1.below hbr2 hlt1
          obtain ⟨d0, d1⟩ := blkG hG6
          have hE6 := hE1.below hbr2 (Nat.le_refl _)
          have kfi2 := kfi.out u v
          have hF := rfnd_adj hc'.out (show u ≠ v by omega)
          generalize rfnd n es u v = F at *
          have i2 : (k2 : Int) < (m2 : Int) := by omega
          have kq : ∀ dd os, Calls Tryd.prog 13 #[.agg #[.int .i64 n, .slice A m c], .int .i64 u, .int .i64 v] (Sort.grow (redrawn wr dd) os) fun e w'' => e = .returned (.int .i64 F) ∧ ∃ p : Regrown, w'' = Sort.grow (redrawn wr p.d) p.os := fun dd os => Calls.regrown_of (kfi2 _ (hE6.below (below_regrown wr dd os) (Nat.le_refl _)))
          have x0 : ∀ dd os, (Sort.grow (redrawn wr dd) os).cell? ⟨w.heap.size, 0, none⟩ = some (.int .i64 n) := fun dd os => cell_regrown d0 dd os
          have x1 : ∀ dd os, (Sort.grow (redrawn wr dd) os).cell? ⟨w.heap.size, 1, none⟩ = some (.slice A m c) := fun dd os => cell_regrown d1 dd os
          have x2 : ∀ dd os, (Sort.grow (redrawn wr dd) os).cell? (ad5.add k1) = some (.int .i64 u) := fun dd os => cell_regrown cy2 dd os
          have x3 : ∀ dd os, (Sort.grow (redrawn wr dd) os).cell? (ad5.add k2) = some (.int .i64 v) := fun dd os => cell_regrown cy3 dd os
          replace kq := Lib.hid kq
          clear kfi2 hy2 hy3 hu hv e2 e3 hue hve hr6 hG6 d0 d1 cy2 cy3
          cases hadj : ad (rowsL n es) u v with
          | true =>
            rw [hadj] at hF
            have q4 : decide (F < 0) = false := hF
            clear hF
            have hA3 : Hid (∀ b, k1 < b → b < k2 + 1 → ad (rowsL n es) (S.getD k1 0) (S.getD b 0) = true) := Lib.hid fun b h h' => by
              by_cases hb : b = k2
              · rw [hb, hgu.out, hgv.out, hadj]
              · exact hA2.out b h (by omega)
            clear hadj
            go_upto_region 9 with fail
            refine wp_region_quiet_below (by kernel_rfl) (by kernel_rfl) ?_
            repeat (quiet_step (with_reducible exact kq.out _ _))
            refine wpQuiet_nil ?_
            intro _ hw'
            obtain ⟨⟨dq, osq⟩, hw''⟩ := hw'
            subst hw''
            have hbx := hbr2.trans ((below_regrown wr dq osq).mono hbr2.size)
            go_wp2_with fail
            go_roundw
            case rel => exact ⟨k2 + 1, by omega, by omega, by go_num, hA3, hbx⟩
            case measure => simp [intOf]; omega
          | false =>
            rw [hadj] at hF
            have q4 : decide (F < 0) = true := hF
            clear hF
            have hno : Hid (¬ clq (ad (rowsL n es)) S) := Lib.hid fun h => by
              have h1 := hm2.out
              have := List.pairwise_iff_getElem.1 h k1 k2 (by omega) (by omega) hk12
              rw [← getD_lt, ← getD_lt, hgu.out, hgv.out, hadj] at this
              cases this
            clear hadj
            go_upto_region 9 with fail
            refine wp_region_quiet_below (by kernel_rfl) (by kernel_rfl) ?_
            repeat (quiet_step (with_reducible exact kq.out _ _))
            refine wpQuiet_nil ?_
            intro _ hw'
            obtain ⟨⟨dq, osq⟩, hw''⟩ := hw'
            subst hw''
            have hbx := hbr2.trans ((below_regrown wr dq osq).mono hbr2.size)
            go_wp2_with fail
            go_ret
            exact ⟨retBool (decide_eq_false hno.out).symm, hW1.trans (hbx.mono hW1.size)⟩
        · have hA3 : Hid (∀ a b, a < b → b < m2 → a < k1 + 1 → ad (rowsL n es) (S.getD a 0) (S.getD b 0) = true) := Lib.hid fun a b h h' h'' => by
            by_cases ha : a = k1
            · rw [ha]; exact hA2.out b (by omega) (by omega)
            · exact hA.out a b h h' (by omega)
          have i2 : ¬ (k2 : Int) < (m2 : Int) := by omega
          go_wp2_with fail
          go_roundw
          case rel => exact ⟨k1 + 1, by omega, by go_num, hA3, hbr2⟩
          case measure => simp [intOf]; omega
    · have hyes : Hid (clq (ad (rowsL n es)) S) := Lib.hid (List.pairwise_iff_getElem.2 fun a b ha hb hab => by
        have h1 := hm2.out
        have := hA.out a b hab (by omega) (by omega)
        rwa [getD_lt ha, getD_lt hb] at this)
      have i1 : ¬ (k1 : Int) < (m2 : Int) := by omega
      go_wp2_with fail
      go_ret
      exact ⟨retBool (decide_eq_true hyes.out).symm, hW1.trans (hbr.mono hW1.size)⟩

attribute [local irreducible] wpQuiet in
set_option maxRecDepth 100000 in
set_option maxHeartbeats 4000000 in
theorem r24fits_any (A : Option Addr) (m c n : Nat) (es : List (Int × Int)) (A2 : Option Addr) (m2 c2 : Nat) (S : List Nat) (v : Nat) (w : World) (hE : RE w A m es) (hm : m ≤ 274877906944) (hc : chkG n es = 0) (h2 : RI w A2 m2 (nt S)) (hm64 : m2 ≤ 1000) (hv64 : v ≤ 1000) :
    Calls Tryd.prog 53 #[.agg #[.int .i64 n, .slice A m c], .slice A2 m2 c2, .int .i64 v] w fun e w' => e = .returned (.bool (decide (fit (ad (rowsL n es)) S v))) ∧ Below w.heap.size w w' := by
  have hm2 : S.length = m2 := by have := h2.len; rw [nt_length] at this; exact this
  have kfi := fun u w h => rfind_any A m c n es u v w h hm
  replace kfi := Lib.hid kfi
  have hc' := Lib.hid hc
  replace hm2 := Lib.hid hm2
  clear hc
  have hB1 : Below w.heap.size w (w.alloc (.cells #[.int .i64 n, .slice A m c] 27)) := (Below.refl _ w).alloc (Nat.le_refl _) _
  have bg1 := Blk.new w 27 #[.int .i64 n, .slice A m c]
  have hE1 := hE.below hB1 (Nat.le_refl _)
  have hS1 := h2.below hB1 (Nat.le_refl _)
  have hlt1 := bg1.lt
  go_enter Tryd.func53, Tryd.ntmps53
  go_wp2_with fail
  generalize w.alloc (.cells #[.int .i64 n, .slice A m c] 27) = w1 at *
  go_loopw [7] (fun i wr => ∃ k1 : Nat, k1 ≤ m2 ∧ i = .int .i64 k1 ∧ Hid (∀ a, a < k1 → S.getD a 0 ≠ v ∧ ad (rowsL n es) (S.getD a 0) v = true) ∧ Below w1.heap.size w1 wr) (fun i _ => m2 - (intOf i).toNat)
  case atStart => exact ⟨0, Nat.zero_le _, rfl, Lib.hid (fun a h => absurd h (by omega)), Below.refl _ _⟩
  case round =>
    obtain ⟨k1, hk1, rfl, hA, hbr⟩ := hrel
    by_cases hlt1' : k1 < m2
    · have i1 : (k1 : Int) < (m2 : Int) := by omega
      have hr6 := hS1.below hbr (Nat.le_refl _)
      obtain ⟨ad5, y2, rfl, hy2, cy2⟩ := hr6.get hlt1'
      obtain ⟨u, hu, rfl⟩ := nt_get hy2.out
      obtain ⟨e2, hue⟩ := List.getElem?_eq_some_iff.1 hu
      have hgu : Hid (S.getD k1 0 = u) := Lib.hid (by rw [getD_lt e2, hue])
      have huS : u ∈ S := List.mem_of_getElem? hu
      have hG6 := bg1.below hbr hlt1
      obtain ⟨d0, d1⟩ := blkG hG6
      have hE6 := hE1.below hbr (Nat.le_refl _)
      have x0 : ∀ dd os, (Sort.grow (redrawn wr dd) os).cell? ⟨w.heap.size, 0, none⟩ = some (.int .i64 n) := fun dd os => cell_regrown d0 dd os
      have x1 : ∀ dd os, (Sort.grow (redrawn wr dd) os).cell? ⟨w.heap.size, 1, none⟩ = some (.slice A m c) := fun dd os => cell_regrown d1 dd os
      have x2 : ∀ dd os, (Sort.grow (redrawn wr dd) os).cell? (ad5.add k1) = some (.int .i64 u) := fun dd os => cell_regrown cy2 dd os
      clear hy2 hu e2 hue hr6 hG6 d0 d1 cy2
      by_cases huv : u = v
      · have hno : Hid (¬ fit (ad (rowsL n es)) S v) := Lib.hid fun h => (h u huS).1 huv
        have q1 : ((u : Int) == (v : Int)) = true := by rw [huv]; simp
        clear huv kfi
        go_upto_region 4 with fail
        refine wp_region_quiet_below (by kernel_rfl) (by kernel_rfl) ?_
        repeat (quiet_step (fail))
        refine wpQuiet_nil ?_
        intro _ hw'
        obtain ⟨⟨dq, osq⟩, hw''⟩ := hw'
        subst hw''
        have hbx := hbr.trans ((below_regrown wr dq osq).mono hbr.size)
        go_wp2_with fail
        go_ret
        exact ⟨retBool (decide_eq_false hno.out).symm, hB1.trans (hbx.mono hB1.size)⟩
      · have kfi2 := kfi.out u
        have hF := rfnd_adj hc'.out huv
        have q1 : ((u : Int) == (v : Int)) = false := by simp; omega
        generalize rfnd n es u v = F at *
        have kq : ∀ dd os, Calls Tryd.prog 13 #[.agg #[.int .i64 n, .slice A m c], .int .i64 u, .int .i64 v] (Sort.grow (redrawn wr dd) os) fun e w'' => e = .returned (.int .i64 F) ∧ ∃ p : Regrown, w'' = Sort.grow (redrawn wr p.d) p.os := fun dd os => Calls.regrown_of (kfi2 _ (hE6.below (below_regrown wr dd os) (Nat.le_refl _)))
        replace kq := Lib.hid kq
        clear kfi2
        cases hadj : ad (rowsL n es) u v with
        | true =>
          rw [hadj] at hF
          have q4 : decide (F < 0) = false := hF
          clear hF
          have hA3 : Hid (∀ a, a < k1 + 1 → S.getD a 0 ≠ v ∧ ad (rowsL n es) (S.getD a 0) v = true) := Lib.hid fun a h => by
            by_cases ha : a = k1
            · rw [ha, hgu.out]; exact ⟨huv, hadj⟩
            · exact hA.out a (by omega)
          clear hadj huv
          go_upto_region 4 with fail
          refine wp_region_quiet_below (by kernel_rfl) (by kernel_rfl) ?_
          repeat (quiet_step (with_reducible exact kq.out _ _))
          refine wpQuiet_nil ?_
          intro _ hw'
          obtain ⟨⟨dq, osq⟩, hw''⟩ := hw'
          subst hw''
          have hbx := hbr.trans ((below_regrown wr dq osq).mono hbr.size)
          go_wp2_with fail
          go_roundw
          case rel => exact ⟨k1 + 1, by omega, by go_num, hA3, hbx⟩
          case measure => simp [intOf]; omega
        | false =>
          rw [hadj] at hF
          have q4 : decide (F < 0) = true := hF
          clear hF
          have hno : Hid (¬ fit (ad (rowsL n es)) S v) := Lib.hid fun h => by
            have := (h u huS).2
            rw [hadj] at this; cases this
          clear hadj huv
          go_upto_region 4 with fail
          refine wp_region_quiet_below (by kernel_rfl) (by kernel_rfl) ?_
          repeat (quiet_step (with_reducible exact kq.out _ _))
          refine wpQuiet_nil ?_
          intro _ hw'
          obtain ⟨⟨dq, osq⟩, hw''⟩ := hw'
          subst hw''
          have hbx := hbr.trans ((below_regrown wr dq osq).mono hbr.size)
          go_wp2_with fail
          go_ret
          exact ⟨retBool (decide_eq_false hno.out).symm, hB1.trans (hbx.mono hB1.size)⟩
    · have hyes : Hid (fit (ad (rowsL n es)) S v) := Lib.hid fun u hu => by
        obtain ⟨a, ha, rfl⟩ := List.getElem_of_mem hu
        have h1 := hm2.out
        have := hA.out a (by omega)
        rwa [getD_lt ha] at this
      have i1 : ¬ (k1 : Int) < (m2 : Int) := by omega
      go_wp2_with fail
      go_ret
      exact ⟨retBool (decide_eq_true hyes.out).symm, hB1.trans (hbr.mono hB1.size)⟩

set_option maxRecDepth 100000 in
set_option maxHeartbeats 4000000 in
theorem r24max_any (A : Option Addr) (m c n : Nat) (es : List (Int × Int)) (A2 : Option Addr) (m2 c2 : Nat) (S : List Nat) (w : World) (hE : RE w A m es) (hm : m ≤ 274877906944) (hc : chkG n es = 0) (h2 : RI w A2 m2 (nt S)) (hs : S.Pairwise (· < ·)) (hn : ∀ x ∈ S, x < n) :
    Calls Tryd.prog 20 #[.agg #[.int .i64 n, .slice A m c], .slice A2 m2 c2] w fun e w' => e = .returned (.bool (decide (mcl (ad (rowsL n es)) n S))) ∧ Below w.heap.size w w' := by
  have kis := fun w h h2 => r24is_any A m c n es A2 m2 c2 S w h hm hc h2 hs hn
  have hN := (chkG_zero hc).2.1
  have hm2 : S.length = m2 := by have := h2.len; rw [nt_length] at this; exact this
  have hml := len_le hs hn
  have hm64 : m2 ≤ 64 := by omega
  have hn64 : n ≤ 64 := by omega
  have kfi := fun v w h h2 hv => r24fits_any A m c n es A2 m2 c2 S v w h hm hc h2 (by omega) hv
  replace kfi := Lib.hid kfi
  clear hc hn hN hml
  have hB1 : Below w.heap.size w (w.alloc (.cells #[.int .i64 n, .slice A m c] 27)) := (Below.refl _ w).alloc (Nat.le_refl _) _
  have hlt : w.heap.size < (w.alloc (.cells #[.int .i64 n, .slice A m c] 27)).heap.size := by simp
  cases hI : decide (clq (ad (rowsL n es)) S) with
  | false =>
    rw [hI] at kis
    have hno : Hid (¬ mcl (ad (rowsL n es)) n S) := Lib.hid fun h => by have := h.1; rw [decide_eq_false_iff_not] at hI; exact hI this
    clear hI kfi hm2
    replace kis := Lib.hid kis
    go_enter Tryd.func20, Tryd.ntmps20
    go_wp2_with (first
      | (go_at_call 18; refine (kis.out _ (hE.alloc _) (h2.alloc _)).mono ?_; rintro e w1 ⟨rfl, hb1⟩
         have hW1 : Below w.heap.size w w1 := hB1.trans (hb1.mono (by simp)))
      | fail)
    go_ret
    exact ⟨retBool (decide_eq_false hno.out).symm, hW1⟩
  | true =>
    rw [hI] at kis
    rw [decide_eq_true_iff] at hI
    replace hI := Lib.hid hI
    replace kis := Lib.hid kis
    by_cases h0 : m2 = 0
    · have hno : Hid (¬ mcl (ad (rowsL n es)) n S) := Lib.hid fun h => by have := List.length_pos_iff.2 h.2.1; omega
      have q0 : ((m2 : Int) == 0) = true := by rw [h0]; rfl
      clear h0 hm2 kfi
      go_enter Tryd.func20, Tryd.ntmps20
      go_wp2_with (first
        | (go_at_call 18; refine (kis.out _ (hE.alloc _) (h2.alloc _)).mono ?_; rintro e w1 ⟨rfl, hb1⟩
           have hW1 : Below w.heap.size w w1 := hB1.trans (hb1.mono (by simp)))
        | fail)
      go_ret
      exact ⟨retBool (decide_eq_false hno.out).symm, hW1⟩
    · have q0 : ((m2 : Int) == 0) = false := by simp; omega
      have hne : Hid (S ≠ []) := Lib.hid (List.length_pos_iff.1 (by omega))
      replace hm2 := Lib.hid hm2
      go_enter Tryd.func20, Tryd.ntmps20
      go_wp2_with (first
        | (go_at_call 18; refine (kis.out _ (hE.alloc _) (h2.alloc _)).mono ?_; rintro e w1 ⟨rfl, hb1⟩
           have hW1 : Below w.heap.size w w1 := hB1.trans (hb1.mono (by simp))
           have bg1 := Blk.below (Blk.new w 27 #[.int .i64 n, .slice A m c]) hb1 hlt
           have hE1 := hE.below hW1 (Nat.le_refl _)
           have hS1 := h2.below hW1 (Nat.le_refl _))
        | fail)
      have hlt1 := bg1.lt
      clear hb1 kis hB1 hlt h0
      go_loopw [5] (fun i wr => ∃ k1 : Nat, k1 ≤ n ∧ i = .int .i64 k1 ∧ Hid (∀ v, v < k1 → ¬ fit (ad (rowsL n es)) S v) ∧ Below w1.heap.size w1 wr) (fun i _ => n - (intOf i).toNat)
      case atStart => exact ⟨0, Nat.zero_le _, rfl, Lib.hid (fun a h => absurd h (by omega)), Below.refl _ _⟩
      case round =>
        obtain ⟨k1, hk1, rfl, hA, hbr⟩ := hrel
        have hG6 := bg1.below hbr hlt1
        obtain ⟨d0, d1⟩ := blkG hG6
        have hE6 := hE1.below hbr (Nat.le_refl _)
        have hS6 := hS1.below hbr (Nat.le_refl _)
        by_cases hlt1' : k1 < n
        · have i1 : (k1 : Int) < (n : Int) := by omega
          have kf := kfi.out k1 wr hE6 hS6 (by omega)
          cases hF : decide (fit (ad (rowsL n es)) S k1) with
          | true =>
            rw [hF] at kf
            rw [decide_eq_true_iff] at hF
            have hno : Hid (¬ mcl (ad (rowsL n es)) n S) := Lib.hid fun h => h.2.2 k1 hlt1' hF
            replace kf := Lib.hid kf
            clear hF kfi
            go_wp2_with (first | (go_at_call 53; refine kf.out.mono ?_; rintro e w2 ⟨rfl, hb2⟩) | fail)
            go_ret
            exact ⟨retBool (decide_eq_false hno.out).symm, hW1.trans ((hbr.trans (hb2.mono hbr.size)).mono hW1.size)⟩
          | false =>
            rw [hF] at kf
            rw [decide_eq_false_iff_not] at hF
            have hA3 : Hid (∀ v, v < k1 + 1 → ¬ fit (ad (rowsL n es)) S v) := Lib.hid fun v hv => by
              by_cases hvk : v = k1
              · rw [hvk]; exact hF
              · exact hA.out v (by omega)
            replace kf := Lib.hid kf
            clear hF kfi
            go_wp2_with (first | (go_at_call 53; refine kf.out.mono ?_; rintro e w2 ⟨rfl, hb2⟩) | fail)
            go_roundw
            case rel => exact ⟨k1 + 1, by omega, by go_num, hA3, hbr.trans (hb2.mono hbr.size)⟩
            case measure => simp [intOf]; omega
        · have i1 : ¬ (k1 : Int) < (n : Int) := by omega
          have hyes : Hid (mcl (ad (rowsL n es)) n S) := Lib.hid ⟨hI.out, hne.out, fun v hv => hA.out v (by omega)⟩
          go_wp2_with fail
          go_ret
          exact ⟨retBool (decide_eq_true hyes.out).symm, hW1.trans (hbr.mono hW1.size)⟩
end Go.Proofs.YtfefginhlliccaaDoor.Pl

/- Plain laws: 1-plexes are cliques. -/
set_option linter.unusedVariables false
set_option linter.unusedSimpArgs false
namespace Go.Proofs.YtfefginhlliccaaDoor.Pl
open Go.RowKit Go.Shelf CoBit CoCli Go.Proofs.YtfefginhlliccaaDoor

theorem clq_all {a : Nat → Nat → Bool} {S : List Nat} (hs : ∀ u w, a u w = a w u) (h : clq a S) {u v : Nat} (hu : u ∈ S) (hv : v ∈ S) (hne : u ≠ v) : a u v = true := by
  obtain ⟨i, hi, rfl⟩ := List.getElem_of_mem hu
  obtain ⟨j, hj, rfl⟩ := List.getElem_of_mem hv
  have hp := List.pairwise_iff_getElem.1 h
  rcases Nat.lt_trichotomy i j with h1 | h1 | h1
  · exact hp i j hi hj h1
  · subst h1; exact absurd rfl hne
  · rw [hs]; exact hp j i hj hi h1
theorem plx_one {a : Nat → Nat → Bool} {S : List Nat} (hs : ∀ u w, a u w = a w u) (hi : ∀ u, a u u = false) (hn : S.Nodup) : plx a 1 S ↔ clq a S := by
  constructor
  · intro h
    refine hn.imp_of_mem fun {u v} hu hv hne => ?_
    cases huv : a u v with
    | true => rfl
    | false =>
      have h1 := h u hu
      have h2 := List.Nodup.length_le_of_subset (l₁ := u :: v :: S.filter (a u)) (l₂ := S) (by
        rw [List.nodup_cons, List.nodup_cons]
        refine ⟨fun hm => ?_, fun hm => ?_, hn.filter _⟩
        · rw [List.mem_cons] at hm
          rcases hm with hm | hm
          · exact hne hm
          · have := (List.mem_filter.1 hm).2
            rw [hi] at this; cases this
        · have := (List.mem_filter.1 hm).2
          rw [huv] at this; cases this) (by
        intro x hx
        rw [List.mem_cons, List.mem_cons] at hx
        rcases hx with rfl | rfl | hx
        · exact hu
        · exact hv
        · exact (List.mem_filter.1 hx).1)
      unfold dgs at h1
      simp only [List.length_cons] at h2
      omega
  · intro h v hv
    have h2 := List.Nodup.length_le_of_subset (l₁ := S) (l₂ := v :: S.filter (a v)) hn (by
      intro x hx
      rw [List.mem_cons]
      by_cases hxv : x = v
      · exact .inl hxv
      · exact .inr (List.mem_filter.2 ⟨hx, clq_all hs h hv hx (fun e => hxv e.symm)⟩))
    unfold dgs
    simp only [List.length_cons] at h2
    omega
theorem mxl_one {a : Nat → Nat → Bool} {n : Nat} {S : List Nat} (hs : ∀ u w, a u w = a w u) (hi : ∀ u, a u u = false) (hn : S.Nodup) : mxl a n 1 S ↔ mcl a n S := by
  unfold mxl mcl
  rw [plx_one hs hi hn]
  constructor
  · rintro ⟨h1, h2, h3⟩
    refine ⟨h2, h1, fun v hv hf => ?_⟩
    have hvS : v ∉ S := fun hm => (hf v hm).1 rfl
    refine h3 v hv hvS ((plx_one hs hi (List.nodup_cons.2 ⟨hvS, hn⟩)).2 (List.pairwise_cons.2 ⟨fun u hu => ?_, h2⟩))
    rw [hs]; exact (hf u hu).2
  · rintro ⟨h1, h2, h3⟩
    refine ⟨h2, h1, fun v hv hvS hp => h3 v hv fun u hu => ?_⟩
    have := (plx_one hs hi (List.nodup_cons.2 ⟨hvS, hn⟩)).1 hp
    refine ⟨fun e => hvS (e ▸ hu), ?_⟩
    rw [hs]; exact (List.pairwise_cons.1 this).1 u hu
theorem plx_more {a : Nat → Nat → Bool} {k k' : Nat} {S : List Nat} (h : plx a k S) (hk : k ≤ k') : plx a k' S := fun v hv => by have := h v hv; omega
theorem plx_few {a : Nat → Nat → Bool} {k : Nat} {S : List Nat} (h : S.length ≤ k) : plx a k S := fun v hv => by omega
theorem isB_of {n : Nat} {es : List (Int × Int)} {q : Nat} (hc : chkG n es = 0) (hq : 1 ≤ q) (hq3 : q ≤ 3) {S : List Nat} (h : S.Pairwise (· < ·)) (hn : ∀ x ∈ S, x < n) : isB n es (nt S) q = decide (plx (ad (rowsL n es)) q S) := by
  unfold isB
  rw [toNat_nt, decide_eq_true (⟨hc, by omega, by omega, vld_nt h hn⟩ : chkG n es = 0 ∧ 1 ≤ (q : Int) ∧ (q : Int) ≤ 3 ∧ Vld (nt S) n), Int.toNat_natCast, Int.toNat_natCast, Bool.true_and]
theorem meet_nt {S : List Nat} (h : S.Pairwise (· < ·)) (ys : List Int) : meetL (nt S) ys = nt (S.filter fun x => decide ((x : Int) ∈ ys)) := by
  rw [meet_sorted (vld_nt h (n := S.foldl (fun a x => a + x + 1) 0) (fun x hx => ?_)).2]
  · unfold nt
    rw [List.filter_map]; rfl
  · have key : ∀ (l : List Nat) (a : Nat), a ≤ l.foldl (fun a x => a + x + 1) a := by
      intro l; induction l with
      | nil => intro a; exact Nat.le_refl _
      | cons y l ih => intro a; exact Nat.le_trans (by omega) (ih (a + y + 1))
    have : ∀ (l : List Nat) (a : Nat), x ∈ l → x < l.foldl (fun a x => a + x + 1) a := by
      intro l; induction l with
      | nil => intro a h; cases h
      | cons y l ih =>
        intro a h
        rw [List.mem_cons] at h
        rcases h with rfl | h
        · exact Nat.lt_of_lt_of_le (show x < a + x + 1 by omega) (key l _)
        · exact ih _ h
    exact this S 0 hx
end Go.Proofs.YtfefginhlliccaaDoor.Pl
