/- Reference 19: Best (out of Zao), and that the first level is its answer. -/
import Derived.Test.YticekkjambkifaaDoorAwkL
import Derived.Deep.DeepCutAuto
import Derived.BigRegion
set_option linter.unusedVariables false
set_option linter.unusedSimpArgs false
namespace Go.Proofs.YticekkjambkifaaDoor
open Go.RowKit CoBit CoRat Rt
theorem cross_le {a b c d e f : Nat} (hd : 0 < d) (h1 : a * d ≤ c * b) (h2 : c * f ≤ e * d) : a * f ≤ e * b := by
  refine Nat.le_of_mul_le_mul_left ?_ hd
  have e1 : d * (a * f) = (a * d) * f := by grind
  have e2 : d * (e * b) = (e * d) * b := by grind
  rw [e1, e2]
  refine Nat.le_trans (Nat.mul_le_mul_right f h1) (Nat.le_trans ?_ (Nat.mul_le_mul_right b h2))
  have : c * b * f = c * f * b := by grind
  omega
theorem bset_zero : bset 0 = [] := by decide +kernel
theorem pop_bset (x : Nat) : pop x = (bset x).length := by rw [pop_bl]; unfold bset; rw [nts_length]
end Go.Proofs.YticekkjambkifaaDoor
/- Printed by merge.py from BitG, BstA, BstM, BstN. -/
/- Reference 03: Count, Size, Set of bits in a number. -/
set_option linter.unusedVariables false
set_option linter.unusedSimpArgs false
namespace Go.Proofs.YticekkjambkifaaDoor
open Go.RowKit CoBit
theorem pop_step {y : Nat} (h0 : 0 < y) (h : y < 18446744073709551616) : pop y = pop (y &&& (y - 1)) + 1 := by
  rw [pop_bl, pop_bl, bl_step h0 h, List.length_cons]
set_option maxRecDepth 100000 in
set_option maxHeartbeats 1000000 in
theorem rsize_any (x : Nat) (hx : x < 4611686018427387904) (w : World) :
    Calls Tryd.prog 57 #[.int .i64 x] w fun e w' => e = .returned (.int .i64 (pop x : Nat)) ∧ w' = w := by
  have h64 : pop x ≤ 64 := by rw [pop_bl]; exact bl_length _
  go_enter Tryd.func57, Tryd.ntmps57
  go_wp2_with fail
  go_loopw [0, 3] (fun v i wr => ∃ (y k : Nat), v = .int .i64 y ∧ i = .int .i64 k ∧ k + pop y = pop x ∧ y ≤ x ∧ wr = w) (fun v _ _ => (intOf v).toNat)
  case atStart => exact ⟨x, 0, rfl, rfl, by omega, Nat.le_refl _, rfl⟩
  case round =>
    obtain ⟨y, k, rfl, rfl, hk, hy, hw⟩ := hrel
    by_cases h0 : 0 < y
    · have i0 : (0 : Int) < (y : Int) := by omega
      have hs := pop_step h0 (by omega)
      have hlt := and_pred_lt h0
      have hb : bits .and .i64 (y : Int) ((y : Int) - 1) = ((y &&& (y - 1) : Nat) : Int) := by
        rw [show (y : Int) - 1 = ((y - 1 : Nat) : Int) by omega]
        exact i64_and_nat y (y - 1) (by omega) (by omega)
      generalize y &&& (y - 1) = z at *
      go_wp2_with fail
      go_roundw
      case rel => exact ⟨z, k + 1, rfl, by go_num, by omega, by omega, by first | exact hw | trivial⟩
      case measure => simp [intOf]; omega
    · obtain rfl : y = 0 := by omega
      have hp : k = pop x := by rw [← hk]; simp [pop_bl, bl, bitsIn]
      subst hw
      go_wp2_with fail
      go_ret
      exact ⟨retInt (by rw [hp]), rfl⟩
theorem bset_step {x k : Nat} : (bset x).filter (fun i => decide (i < ((k + 1 : Nat) : Int))) = (bset x).filter (fun i => decide (i < (k : Int))) ++ (if k < 64 ∧ x.testBit k = true then [(k : Int)] else []) := by
  refine sorted_ext ((bset_sorted x).filter _) ?_ fun y => ?_
  · refine List.pairwise_append.2 ⟨(bset_sorted x).filter _, by split <;> simp, fun a ha b hb => ?_⟩
    split at hb
    · rw [List.mem_singleton] at hb
      subst hb
      simpa using (List.mem_filter.1 ha).2
    · cases hb
  · rw [List.mem_append, List.mem_filter, List.mem_filter]
    constructor
    · rintro ⟨h1, h2⟩
      rw [decide_eq_true_eq] at h2
      by_cases h3 : y < (k : Int)
      · exact .inl ⟨h1, decide_eq_true h3⟩
      · obtain rfl : y = (k : Int) := by omega
        rw [if_pos (mem_bset.1 h1)]
        exact .inr (by simp)
    · rintro (⟨h1, h2⟩ | h)
      · rw [decide_eq_true_eq] at h2
        exact ⟨h1, decide_eq_true (by omega)⟩
      · split at h
        · rename_i hk
          rw [List.mem_singleton] at h
          subst h
          exact ⟨mem_bset.2 hk, decide_eq_true (by omega)⟩
        · cases h
set_option maxRecDepth 100000 in
set_option maxHeartbeats 1000000 in
theorem rset_any (x : Nat) (hx : x < 4611686018427387904) (w : World) :
    Calls Tryd.prog 58 #[.int .i64 x] w (RetI w (bset x)) := by
  have hx64 : x / 2 ^ 62 = 0 := Nat.div_eq_of_lt (by rw [show (2 : Nat) ^ 62 = 4611686018427387904 by decide +kernel]; exact hx)
  go_enter Tryd.func58, Tryd.ntmps58
  go_wp2_with fail
  go_loopw [3, 4] (fun v i wr => ∃ (k : Nat) (o : Value), o = v ∧ i = .int .i64 k ∧ k ≤ 62 ∧ OI wr w.heap.size o ((bset x).filter fun i => decide (i < (k : Int))) ∧ Below w.heap.size w wr) (fun _ i _ => 62 - (intOf i).toNat)
  case atStart => exact ⟨0, _, rfl, rfl, Nat.zero_le _, by
    have e : (bset x).filter (fun i => decide (i < ((0 : Nat) : Int))) = [] := List.filter_eq_nil_iff.2 fun y hy => by
      obtain ⟨i, hi, rfl⟩ := List.mem_map.1 (show y ∈ (bl x).map fun i : Nat => (i : Int) from hy)
      simp
    rw [e]; exact OI.nil_, Below.refl _ _⟩
  case round =>
    obtain ⟨k, o, rfl, rfl, hk, ho, hb⟩ := hrel
    have hsh : (x : Int) / 2 ^ k = ((x / 2 ^ k : Nat) : Int) := by
      rw [Int.natCast_ediv, Int.natCast_pow]; rfl
    have hkm : min k 64 = k := Nat.min_eq_left (by omega)
    by_cases h0 : 0 < x / 2 ^ k
    · have hk62 : k < 62 := by
        rcases Nat.lt_or_ge k 62 with h | h
        · exact h
        · obtain rfl : k = 62 := by omega
          omega
      have hst := Lib.hid (bset_step (x := x) (k := k))
      have hle : x / 2 ^ k ≤ x := Nat.div_le_self _ _
      have hband : bits .and .i64 ((x / 2 ^ k : Nat) : Int) 1 = ((x / 2 ^ k % 2 : Nat) : Int) := by
        have := i64_and_nat (x / 2 ^ k) 1 (by omega) (by omega)
        rw [Nat.and_one_is_mod] at this
        exact this
      have htb : x.testBit k = decide (x / 2 ^ k % 2 = 1) := by
        rw [Nat.testBit_eq_decide_div_mod_eq]
      have hlf : ((bset x).filter fun i => decide (i < (k : Int))).length ≤ 64 := Nat.le_trans (List.length_filter_le _ _) (bset_length x)
      have i0 : (0 : Int) < ((x / 2 ^ k : Nat) : Int) := by omega
      rw [htb] at hst
      obtain ⟨Ao, no, co, rfl, hno, hco, -, -⟩ := ho.form
      replace hno := Lib.hid hno
      clear htb hx64
      rcases Nat.mod_two_eq_zero_or_one (x / 2 ^ k) with hz | hz
      · rw [hz] at hst hband
        generalize x / 2 ^ k = X at *
        have hst2 := hst.out
        rw [if_neg (by simp), List.append_nil] at hst2
        replace hst2 := Lib.hid hst2
        clear hst hz
        generalize ((bset x).filter fun i => decide (i < (k : Int))) = L at *
        clear hno
        go_wp2_with fail
        go_roundw
        case rel => exact ⟨k + 1, _, rfl, by go_num, by omega, by rw [hst2.out]; exact ho, hb⟩
        case measure => simp [intOf]; omega
      · rw [hz] at hst hband
        generalize x / 2 ^ k = X at *
        have hst2 := hst.out
        rw [if_pos ⟨by omega, by simp⟩] at hst2
        replace hst2 := Lib.hid hst2
        clear hst hz
        generalize ((bset x).filter fun i => decide (i < (k : Int))) = L at *
        clear hno
        go_wp2_with (at_builtin; refine wpList_push rfl _ _ rfl rfl rfl (by simp) ho (by omega) hb.size ?_; intro v7 wd ho7 hb7 hg7)
        go_roundw
        case rel => exact ⟨k + 1, v7, rfl, by go_num, by omega, by rw [hst2.out]; exact ho7, hb.trans hb7⟩
        case measure => simp [intOf]; omega
    · have hz : x / 2 ^ k = 0 := Nat.eq_zero_of_not_pos h0
      have hall : (bset x).filter (fun i => decide (i < (k : Int))) = bset x := List.filter_eq_self.2 fun y hy => by
        obtain ⟨i, hi, rfl⟩ := List.mem_map.1 (show y ∈ (bl x).map fun i : Nat => (i : Int) from hy)
        have h1 := (mem_bl.1 hi).2
        refine decide_eq_true ?_
        rcases Nat.lt_or_ge i k with h | h
        · exact Int.ofNat_lt.2 h
        · exfalso
          have h2 : x < 2 ^ k := by
            rcases Nat.lt_or_ge x (2 ^ k) with h3 | h3
            · exact h3
            · have := Nat.div_pos h3 (Nat.two_pow_pos k); omega
          rw [Nat.testBit_lt_two_pow (Nat.lt_of_lt_of_le h2 (Nat.pow_le_pow_right (by omega) h))] at h1
          cases h1
      rw [hz] at hsh
      rw [hall] at ho
      have hret := ho.ret hb (Nat.le_refl _)
      replace hret := Lib.hid hret
      clear h0 hz hall hx64
      go_wp2_with fail
      go_ret
      exact hret.out
theorem insE_take {es : List (Int × Int)} {k : Nat} {e : Int × Int} (S : List Int) (h : es[k]? = some e) : insE (es.take (k + 1)) S = insE (es.take k) S + (if e.1 ∈ S ∧ e.2 ∈ S then 1 else 0) := by
  rw [show es.take (k + 1) = es.take k ++ [e] from by
    obtain ⟨hk, rfl⟩ := List.getElem?_eq_some_iff.1 h
    exact List.take_succ_eq_append_getElem hk]
  unfold insE
  rw [List.filter_append, List.length_append]
  congr 1
  by_cases hh : e.1 ∈ S ∧ e.2 ∈ S
  · rw [if_pos hh, List.filter_cons, if_pos (by simpa using hh)]; rfl
  · rw [if_neg hh, List.filter_cons, if_neg (by simpa using hh)]; rfl
set_option maxRecDepth 100000 in
set_option maxHeartbeats 1000000 in
theorem rcount_any (A : Option Addr) (m c : Nat) (n : Nat) (es : List (Int × Int)) (x : Nat) (w : World) (h : RE w A m es) (hm : m ≤ 1099511627776) (hz : chkG n es = 0) (hn : n ≤ 62) (hx : x < 4611686018427387904) :
    Calls Tryd.prog 56 #[.agg #[.int .i64 n, .slice A m c], .int .i64 x] w fun e w' => e = .returned (.int .i64 (insE es (bset x) : Nat)) ∧ Below w.heap.size w w' := by
  have hlt := Lib.hid (chkE_lt (chkG_zero hz).2.2)
  have hel := Lib.hid h.len
  have hb0 : Below w.heap.size w (w.alloc (.cells #[.int .i64 n, .slice A m c] 25)) := (Below.refl _ w).alloc (Nat.le_refl _) _
  have h1 := h.alloc (.cells #[.int .i64 n, .slice A m c] 25)
  have hG := Blk.new w 25 #[.int .i64 n, .slice A m c]
  clear hz
  go_enter Tryd.func56, Tryd.ntmps56
  go_upto_region 2 with fail
  generalize w.alloc (.cells #[.int .i64 n, .slice A m c] 25) = w1 at *
  have d1 := Blk.cell hG 1
  simp at d1
  go_upto_region 3 with fail
  go_loopw [5, 11] (fun v i wr => ∃ (k : Nat), k ≤ m ∧ i = .int .i64 k ∧ v = .int .i64 (insE (es.take k) (bset x) : Nat) ∧ Below w1.heap.size w1 wr) (fun _ i _ => m - (intOf i).toNat)
  case atStart => exact ⟨0, Nat.zero_le _, rfl, rfl, Below.refl _ _⟩
  case round =>
    obtain ⟨k, hk, rfl, rfl, hb⟩ := hrel
    by_cases hkm : k < m
    · have i0 : (k : Int) < (m : Int) := by omega
      obtain ⟨ad, u, v, rfl, hab, he, c0, c1⟩ := (RE.below h1 hb (Nat.le_refl _)).get hkm
      have hr := hlt.out _ (List.mem_of_getElem? he.out)
      simp only at hr
      obtain ⟨u, rfl⟩ := Int.eq_ofNat_of_zero_le (show 0 ≤ u by omega)
      obtain ⟨v, rfl⟩ := Int.eq_ofNat_of_zero_le (show 0 ≤ v by omega)
      have hst := insE_take (bset x) he.out
      have hle : insE (es.take k) (bset x) ≤ 1099511627776 := Nat.le_trans (insE_le _ _) (by rw [List.length_take]; omega)
      have hu : (x : Int) / 2 ^ u = ((x / 2 ^ u : Nat) : Int) := by rw [Int.natCast_ediv, Int.natCast_pow]; rfl
      have hv : (x : Int) / 2 ^ v = ((x / 2 ^ v : Nat) : Int) := by rw [Int.natCast_ediv, Int.natCast_pow]; rfl
      have hum : min u 64 = u := Nat.min_eq_left (by omega)
      have hvm : min v 64 = v := Nat.min_eq_left (by omega)
      have bu : x / 2 ^ u ≤ x := Nat.div_le_self _ _
      have bv : x / 2 ^ v ≤ x := Nat.div_le_self _ _
      have a1 := i64_and_nat (x / 2 ^ u) (x / 2 ^ v) (by omega) (by omega)
      have bz : x / 2 ^ u &&& x / 2 ^ v ≤ x / 2 ^ u := Nat.and_le_left
      have a2 : bits .and .i64 ((x / 2 ^ u &&& x / 2 ^ v : Nat) : Int) 1 = (((x / 2 ^ u &&& x / 2 ^ v) % 2 : Nat) : Int) := by
        have := i64_and_nat (x / 2 ^ u &&& x / 2 ^ v) 1 (by omega) (by omega)
        rw [Nat.and_one_is_mod] at this
        exact this
      have hval : (x / 2 ^ u &&& x / 2 ^ v) % 2 = if ((u : Int), (v : Int)).1 ∈ bset x ∧ ((u : Int), (v : Int)).2 ∈ bset x then 1 else 0 := by
        have t1 : (u : Int) ∈ bset x ↔ x.testBit u = true := by rw [mem_bset]; exact ⟨fun h => h.2, fun h => ⟨by omega, h⟩⟩
        have t2 : (v : Int) ∈ bset x ↔ x.testBit v = true := by rw [mem_bset]; exact ⟨fun h => h.2, fun h => ⟨by omega, h⟩⟩
        show _ = if (u : Int) ∈ bset x ∧ (v : Int) ∈ bset x then 1 else 0
        have e1 : (x / 2 ^ u &&& x / 2 ^ v).testBit 0 = (x.testBit u && x.testBit v) := by
          rw [Nat.testBit_and, Nat.testBit_div_two_pow, Nat.testBit_div_two_pow, Nat.zero_add, Nat.zero_add]
        rw [Nat.testBit_zero] at e1
        by_cases hc : x.testBit u = true ∧ x.testBit v = true
        · rw [if_pos ⟨t1.2 hc.1, t2.2 hc.2⟩]
          rw [hc.1, hc.2] at e1
          simpa using e1
        · rw [if_neg (fun h => hc ⟨t1.1 h.1, t2.1 h.2⟩)]
          have e2 : (x.testBit u && x.testBit v) = false := by
            rw [Bool.and_eq_false_iff]
            rcases Bool.eq_false_or_eq_true (x.testBit u) with h | h
            · rcases Bool.eq_false_or_eq_true (x.testBit v) with h' | h'
              · exact absurd ⟨h, h'⟩ hc
              · exact .inr h'
            · exact .inl h
          rw [e2] at e1
          have e3 := of_decide_eq_false e1
          generalize x / 2 ^ u &&& x / 2 ^ v = T at *
          clear a1 a2 bz bu bv hu hv
          omega
      rw [← hval] at hst
      have hz2 : (x / 2 ^ u &&& x / 2 ^ v) % 2 ≤ 1 := by omega
      generalize (x / 2 ^ u &&& x / 2 ^ v) % 2 = Z at *
      generalize x / 2 ^ u &&& x / 2 ^ v = Y at *
      generalize x / 2 ^ u = X1 at *
      generalize x / 2 ^ v = X2 at *
      replace hst := Lib.hid hst
      generalize insE (es.take k) (bset x) = I at *
      have hbn := hb.alloc hb.size (.cells #[.int .i64 u, .int .i64 v] 73)
      clear hval he hr
      go_wp2_with fail
      go_roundw
      case rel => exact ⟨k + 1, by omega, by go_num, by rw [hst.out]; go_num, hbn⟩
      case measure => simp [intOf]; omega
    · obtain rfl : k = m := by omega
      have hall : insE (es.take k) (bset x) = insE es (bset x) := by rw [List.take_of_length_le (by rw [hel.out]; exact Nat.le_refl _)]
      have hbe := hb0.trans (hb.mono hb0.size)
      go_wp2_with fail
      go_ret
      exact ⟨retInt (by rw [hall]), hbe⟩
end Go.Proofs.YticekkjambkifaaDoor

/- Reference 19: Best. -/
set_option linter.unusedVariables false
set_option linter.unusedSimpArgs false
namespace Go.Proofs.YticekkjambkifaaDoor
open Go.RowKit CoBit CoRat Rt
/-- The best of the sets 1 .. j: its bits, its edges, its nodes. -/
def bR (es : List (Int × Int)) : Nat → Nat × Nat × Nat
  | 0 => (0, 0, 1)
  | j + 1 => if (bR es j).2.1 * pop (j + 1) < insE es (bset (j + 1)) * (bR es j).2.2 ∨ insE es (bset (j + 1)) * (bR es j).2.2 = (bR es j).2.1 * pop (j + 1) ∧ pop (bR es j).1 ≤ pop (j + 1)
      then (j + 1, insE es (bset (j + 1)), pop (j + 1)) else bR es j
section
variable {es : List (Int × Int)}
theorem bR_le (j : Nat) : (bR es j).1 ≤ j ∧ (bR es j).2.1 ≤ es.length := by
  induction j with
  | zero => exact ⟨Nat.le_refl _, Nat.zero_le _⟩
  | succ j ih =>
    rw [bR]
    split
    · exact ⟨Nat.le_refl _, insE_le _ _⟩
    · exact ⟨by omega, ih.2⟩
theorem pop_le (x : Nat) : pop x ≤ 64 := by rw [pop_bl]; exact bl_length x
theorem pop_ge {x : Nat} (h0 : 0 < x) (h : x < 18446744073709551616) : 0 < pop x := by rw [pop_step h0 h]; omega
theorem bR_den (j : Nat) (hj : j < 4611686018427387904) : 0 < (bR es j).2.2 ∧ (bR es j).2.2 ≤ 64 := by
  induction j with
  | zero => exact ⟨Nat.one_pos, by show 1 ≤ 64; omega⟩
  | succ j ih =>
    rw [bR]
    split
    · exact ⟨pop_ge (by omega) (by omega), pop_le _⟩
    · exact ih (by omega)
end
set_option maxRecDepth 100000 in
set_option maxHeartbeats 4000000 in
theorem rbest_any (A : Option Addr) (m c : Nat) (n : Nat) (es : List (Int × Int)) (w : World) (h : RE w A m es) (hm : m ≤ 68719476736) (hz : chkG n es = 0) (hn : n ≤ 40) (hml : m ≤ 4096) :
    Calls Tryd.prog 18 #[.agg #[.int .i64 n, .slice A m c]] w fun e w' => ∃ A' k c', e = .returned (.tuple #[.slice A' k c', .agg #[.int .i64 (mkN (bR es (2 ^ n - 1)).2.1 (bR es (2 ^ n - 1)).2.2), .int .i64 (mkD (bR es (2 ^ n - 1)).2.1 (bR es (2 ^ n - 1)).2.2)], .int .i64 0]) ∧ k ≤ c' ∧ RI w' A' k (bset (bR es (2 ^ n - 1)).1) ∧ Below w.heap.size w w' := by
  have kck := fun w h => rcheck_any A m c n es w h (by omega)
  rw [hz] at kck
  have hel := Lib.hid h.len
  have hp40 : 2 ^ n ≤ 1099511627776 := by
    have := Nat.pow_le_pow_right (n := 2) (by omega) hn
    rw [show (2 : Nat) ^ 40 = 1099511627776 by decide +kernel] at this
    exact this
  have hp1 : 0 < 2 ^ n := Nat.two_pow_pos n
  have kcn := Lib.hid (fun x hx w h => rcount_any A m c n es x w h (by omega) hz (by omega) hx)
  have ksz := Lib.hid (fun x hx w => rsize_any x hx w)
  have kst := Lib.hid (fun x hx w => rset_any x hx w)
  replace kck := Lib.hid kck
  clear hz
  have hb0 : Below w.heap.size w ((w.alloc (.cells #[.int .i64 n, .slice A m c] 25)).alloc (.cells #[.int .i64 0, .int .i64 0] 36)) := ((Below.refl _ w).alloc (Nat.le_refl _) _).alloc (by simp) _
  go_enter Tryd.func18, Tryd.ntmps18
  go_wp2_with fail
  refine (kck.out _ ((h.alloc _).alloc _)).mono ?_
  rintro e w1 ⟨rfl, hb1⟩
  have G1 : Blk w1 w.heap.size 25 #[.int .i64 n, .slice A m c] := Blk.below ((Blk.new w _ _).alloc _) hb1 (by simp; omega)
  have R1 : Blk w1 (w.heap.size + 1) 36 #[.int .i64 0, .int .i64 0] := Blk.below (Blk.new' _ _ _ (by simp)) hb1 (by simp)
  have hb01 := hb0.trans (hb1.mono (by simp; omega))
  have hE1 := h.below hb01 (Nat.le_refl _)
  have s1 := R1.lt
  clear hb1 hb0 kck
  go_wp2_with fail
  go_loopw [6, 7, 8, 9] (fun b nu de i wr => ∃ (j : Nat), i = .int .i64 ((j : Int) + 1) ∧ j + 1 ≤ 2 ^ n ∧ b = .int .i64 ((bR es j).1 : Nat) ∧ nu = .int .i64 ((bR es j).2.1 : Nat) ∧ de = .int .i64 ((bR es j).2.2 : Nat) ∧ Below w1.heap.size w1 wr) (fun _ _ _ i _ => 2 ^ n - (intOf i).toNat)
  case atStart => exact ⟨0, rfl, hp1, rfl, rfl, rfl, Below.refl _ _⟩
  case round =>
    obtain ⟨j, rfl, hj, rfl, rfl, rfl, hb⟩ := hrel
    have Gr := G1.below hb G1.lt
    obtain ⟨d0, d1⟩ := blkG Gr
    have hEr := hE1.below hb (Nat.le_refl _)
    have hnm : min n 64 = n := Nat.min_eq_left (by omega)
    have hw2 : IntKind.i64.wrap ((2 : Int) ^ n) = ((2 ^ n : Nat) : Int) := by
      rw [show (2 : Int) ^ n = ((2 ^ n : Nat) : Int) by rw [Int.natCast_pow]; rfl]
      exact IntWalk.i64_in _ ⟨by omega, by omega⟩
    by_cases hlt : j + 1 < 2 ^ n
    · have hbl := bR_le (es := es) j
      have hbd := bR_den (es := es) j (by omega)
      have hI : insE es (bset (j + 1)) ≤ 4096 := Nat.le_trans (insE_le _ _) (by have := hel.out; omega)
      have hnu : (bR es j).2.1 ≤ 4096 := by have := hel.out; omega
      have hK := pop_le (j + 1)
      have hst := Lib.hid (show bR es (j + 1) = _ from bR.eq_2 es j)
      have kc : ∀ w, RE w A m es → Calls Tryd.prog 56 #[.agg #[.int .i64 n, .slice A m c], .int .i64 ((j : Int) + 1)] w fun e w' => e = .returned (.int .i64 (insE es (bset (j + 1)) : Nat)) ∧ Below w.heap.size w w' := fun w h => kcn.out (j + 1) (by omega) w h
      have ks : ∀ w, Calls Tryd.prog 57 #[.int .i64 ((j : Int) + 1)] w fun e w' => e = .returned (.int .i64 (pop (j + 1) : Nat)) ∧ w' = w := fun w => ksz.out (j + 1) (by omega) w
      have ks2 : ∀ w, Calls Tryd.prog 57 #[.int .i64 ((bR es j).1 : Nat)] w fun e w' => e = .returned (.int .i64 (pop (bR es j).1 : Nat)) ∧ w' = w := fun w => ksz.out (bR es j).1 (by omega) w
      have hpb := pop_le (bR es j).1
      generalize insE es (bset (j + 1)) = I at *
      generalize pop (j + 1) = K at *
      generalize bR es j = B at *
      obtain ⟨b, nu, de⟩ := B
      simp only at *
      generalize pop b = PB at *
      obtain ⟨P, hP⟩ : ∃ P, P = 2 ^ n := ⟨_, rfl⟩
      rw [← hP] at hw2 hlt hj hp40 ⊢
      have m1 : IntKind.i64.wrap ((I : Int) * (de : Int)) = ((I * de : Nat) : Int) := by
        have : I * de ≤ 4096 * 64 := Nat.mul_le_mul hI hbd.2
        rw [← Int.natCast_mul]; exact IntWalk.i64_in _ ⟨by omega, by omega⟩
      have m2 : IntKind.i64.wrap ((nu : Int) * (K : Int)) = ((nu * K : Nat) : Int) := by
        have : nu * K ≤ 4096 * 64 := Nat.mul_le_mul hnu hK
        rw [← Int.natCast_mul]; exact IntWalk.i64_in _ ⟨by omega, by omega⟩
      generalize I * de = X at *
      generalize nu * K = Y at *
      have i0 : (j : Int) + 1 < (P : Int) := by omega
      have hcase : (Y < X ∧ (Y : Int) < (X : Int) ∧ Hid (bR es (j + 1) = (j + 1, I, K))) ∨ (X = Y ∧ PB ≤ K ∧ (PB : Int) ≤ (K : Int) ∧ Hid (bR es (j + 1) = (j + 1, I, K))) ∨ (X = Y ∧ ¬ PB ≤ K ∧ ¬ (PB : Int) ≤ (K : Int) ∧ Hid (bR es (j + 1) = (b, nu, de))) ∨ (¬ Y < X ∧ ¬ X = Y ∧ ¬ (Y : Int) < (X : Int) ∧ ((X : Int) == (Y : Int)) = false ∧ Hid (bR es (j + 1) = (b, nu, de))) := by
        have h := hst.out
        by_cases c1 : Y < X
        · exact .inl ⟨c1, by omega, Lib.hid (by rw [h, if_pos (.inl c1)])⟩
        · by_cases c2 : X = Y
          · by_cases c3 : PB ≤ K
            · exact .inr (.inl ⟨c2, c3, by omega, Lib.hid (by rw [h, if_pos (.inr ⟨c2, c3⟩)])⟩)
            · exact .inr (.inr (.inl ⟨c2, c3, by omega, Lib.hid (by rw [h, if_neg (by rintro (h | h); exact c1 h; exact c3 h.2)])⟩))
          · exact .inr (.inr (.inr ⟨c1, c2, by omega, by rw [beq_eq_false_iff_ne]; omega, Lib.hid (by rw [h, if_neg (by rintro (h | h); exact c1 h; exact c2 h.1)])⟩))
      replace hP := Lib.hid hP
      replace kc := Lib.hid kc
      replace ks := Lib.hid ks
      replace ks2 := Lib.hid ks2
      clear hst hel hbl hbd kcn ksz kst
      rcases hcase with ⟨c1, c2, hn⟩ | ⟨c1, c2, c3, hn⟩ | ⟨c1, c2, c3, hn⟩ | ⟨c1, c2, c3, c4, hn⟩
      case' inr.inl => subst c1
      case' inr.inr.inl => subst c1
      all_goals
        clear hP
        go_wp2_with (first
          | (go_at_call 56; with_reducible refine (kc.out _ hEr).mono ?_; rintro e w2 ⟨rfl, hb2⟩
             have hb3 := hb.trans (hb2.mono hb.size))
          | (go_at_call 57; with_reducible refine (ks.out _).mono ?_; rintro e w3 ⟨rfl, hw⟩; subst hw)
          | (go_at_call 57; with_reducible refine (ks2.out _).mono ?_; rintro e w3 ⟨rfl, hw⟩; subst hw)
          | fail)
        go_roundw
        case rel => exact ⟨j + 1, by go_num, by omega, by first | (rw [hn.out]; done) | (rw [hn.out]; rfl), by first | (rw [hn.out]; done) | (rw [hn.out]; rfl), by first | (rw [hn.out]; done) | (rw [hn.out]; rfl), hb3⟩
        case measure => simp [intOf]; omega
    · have hend : j = 2 ^ n - 1 := by omega
      have hbl := bR_le (es := es) j
      have hbd := bR_den (es := es) j (by omega)
      have hnu : (bR es j).2.1 ≤ 4096 := by have := hel.out; omega
      have hb40 : (bR es j).1 < 4611686018427387904 := by omega
      have hbe : bR es (2 ^ n - 1) = bR es j := by rw [hend]
      replace hbe := Lib.hid hbe
      have hlt' : ¬ (j : Int) + 1 < ((2 ^ n : Nat) : Int) := by omega
      generalize bR es j = B at *
      obtain ⟨b, nu, de⟩ := B
      simp only at *
      have kse := Lib.hid (kst.out b hb40 wr)
      have kof := Lib.hid (fun w => of_f (nu : Int) (de : Int) w (by omega) (by omega) (by omega) (by omega))
      have Rr := R1.below hb R1.lt
      have hb0r := hb01.trans (hb.mono hb01.size)
      have hsr := hb.size
      clear hend hbl hbd hnu hb40 kcn ksz kst hel hb hb01 hlt hj hp40
      go_wp2_with (first
        | (go_at_call 58; with_reducible refine kse.out.mono ?_; intro e w2 hq; unfold RetI at hq; obtain ⟨A2, n2, c2, rfl, hc2, hr2, hb2, hf2⟩ := hq
           have hb3 := hb0r.trans (hb2.mono hb0r.size)
           have R2 := Rr.below hb2 Rr.lt)
        | (go_at_call 26; with_reducible refine (kof.out _).mono ?_; rintro e w4 ⟨rfl, hb4⟩
           have hb5 := hb3.trans (hb4.mono hb3.size)
           have R4 := R2.below hb4 R2.lt
           have hr4 := hr2.below hb4 (Nat.le_refl _)
           have y0 := Blk.cell R4 0
           have y1 := Blk.cell R4 1
           have f0 := Blk.frozen R4 0
           have f1 := Blk.frozen R4 1
           simp at y0 y1
           have hzz := Blk.set (Blk.set R4 0 (.int .i64 (mkN nu de))) 1 (.int .i64 (mkD nu de))
           have e0 := Blk.cell hzz 0
           have e1 := Blk.cell hzz 1
           simp at e0 e1
           have hgz := grown_set (grown_set (World.grownBy.refl w4 (some (w.heap.size + 1))) 0 (.int .i64 (mkN nu de))) 1 (.int .i64 (mkD nu de))
           have hbz := hb5.grown hgz hb5.size (fun k hk => by injection hk with hk; omega)
           have hrz := RI.kept hr4 hgz (fun ad e h => by have := hf2 ad e; injection h with h; omega))
        | fail)
      refine bodyPost_ret (v := .tuple #[.slice A2 n2 c2, .agg #[.int .i64 (mkN nu de), .int .i64 (mkD nu de)], .int .i64 0]) (by simp [results, Tryd.results18, go_sem, e0, e1]) rfl ?_
      rw [hbe.out]
      exact ⟨A2, n2, c2, rfl, hc2, hrz, hbz⟩
end Go.Proofs.YticekkjambkifaaDoor

/- Plain laws of the densest set: what the best set's density says of its nodes, of peeling and of rounds. -/
set_option linter.unusedVariables false
set_option linter.unusedSimpArgs false
namespace Go.Proofs.YticekkjambkifaaDoor
open Go.RowKit CoBit CoRat Rt
section
variable {n : Nat} {es : List (Int × Int)} {a d : Nat}
theorem bR_max (j : Nat) (hj : j < 4611686018427387904) : ∀ t, 1 ≤ t → t ≤ j → insE es (bset t) * (bR es j).2.2 ≤ (bR es j).2.1 * pop t := by
  induction j with
  | zero => intro t h1 h2; omega
  | succ j ih =>
    intro t h1 h2
    have hd := (bR_den (es := es) j (by omega)).1
    rw [bR]
    by_cases hc : (bR es j).2.1 * pop (j + 1) < insE es (bset (j + 1)) * (bR es j).2.2 ∨ insE es (bset (j + 1)) * (bR es j).2.2 = (bR es j).2.1 * pop (j + 1) ∧ pop (bR es j).1 ≤ pop (j + 1)
    · rw [if_pos hc]
      show insE es (bset t) * pop (j + 1) ≤ insE es (bset (j + 1)) * pop t
      by_cases ht : t = j + 1
      · rw [ht]; exact Nat.le_refl _
      · refine cross_le hd (ih (by omega) t h1 (by omega)) ?_
        rcases hc with h | h
        · exact Nat.le_of_lt h
        · exact Nat.le_of_eq h.1.symm
    · rw [if_neg hc]
      by_cases ht : t = j + 1
      · rw [ht]
        exact Nat.le_of_not_lt (fun h => hc (.inl h))
      · exact ih (by omega) t h1 (by omega)
theorem bR_is (j : Nat) (hj : 1 ≤ j) : ∃ t, 1 ≤ t ∧ t ≤ j ∧ bR es j = (t, insE es (bset t), pop t) := by
  induction j with
  | zero => omega
  | succ j ih =>
    rw [bR]
    by_cases hc : (bR es j).2.1 * pop (j + 1) < insE es (bset (j + 1)) * (bR es j).2.2 ∨ insE es (bset (j + 1)) * (bR es j).2.2 = (bR es j).2.1 * pop (j + 1) ∧ pop (bR es j).1 ≤ pop (j + 1)
    · rw [if_pos hc]; exact ⟨j + 1, by omega, Nat.le_refl _, rfl⟩
    · rw [if_neg hc]
      rcases Nat.eq_zero_or_pos j with h0 | h0
      · exfalso
        subst h0
        refine hc ?_
        show 0 * pop 1 < insE es (bset 1) * 1 ∨ insE es (bset 1) * 1 = 0 * pop 1 ∧ pop 0 ≤ pop 1
        have hp0 : pop 0 = 0 := by rw [pop_bset, bset_zero]; rfl
        rcases Nat.eq_zero_or_pos (insE es (bset 1)) with h | h
        · right; rw [h, hp0]; omega
        · left; omega
      · obtain ⟨t, h1, h2, h3⟩ := ih h0
        exact ⟨t, h1, by omega, h3⟩
end
end Go.Proofs.YticekkjambkifaaDoor
namespace Go.Proofs.YticekkjambkifaaDoor.Fl
open Go.RowKit Go.Proofs.YticekkjambkifaaDoor CoBit CoRat Rt
theorem insE_nil (es : List (Int × Int)) : insE es [] = 0 := by
  induction es with
  | nil => rfl
  | cons e es ih => rw [insE_cons, ih]; simp
theorem pow62' {n : Nat} (hn : n ≤ 62) : 2 ^ n ≤ 4611686018427387904 := by
  have := Nat.pow_le_pow_right (n := 2) (by omega) hn
  rw [show (2 : Nat) ^ 62 = 4611686018427387904 by decide +kernel] at this
  exact this
theorem sub_pop {t x : Nat} (hx : x < 18446744073709551616) (h : ∀ v, t.testBit v = true → x.testBit v = true) (hp : pop x ≤ pop t) : t = x := by
  have e : x &&& t = t := Nat.eq_of_testBit_eq fun i => by
    rw [Nat.testBit_and]
    cases c : t.testBit i with
    | false => rw [Bool.and_false]
    | true => rw [h i c]; rfl
  have h1 : bl t = (bl x).filter fun i => t.testBit i := by
    have := bl_and x t
    rw [e] at this; exact this
  have h2 : ((bl x).filter fun i => t.testBit i).length = (bl x).length := by
    refine Nat.le_antisymm (List.length_filter_le _ _) ?_
    rw [← h1, ← pop_bl, ← pop_bl]; exact hp
  rw [List.length_filter_eq_length_iff] at h2
  refine Nat.eq_of_testBit_eq fun i => ?_
  cases c : x.testBit i with
  | true =>
    refine h2 i (mem_bl.2 ⟨?_, c⟩)
    refine Classical.byContradiction fun hi => ?_
    rw [Nat.testBit_lt_two_pow (Nat.lt_of_lt_of_le hx (by have := Nat.pow_le_pow_right (n := 2) (by omega) (show 64 ≤ i by omega); rw [show (2 : Nat) ^ 64 = 18446744073709551616 by decide +kernel] at this; exact this))] at c
    cases c
  | false =>
    cases c2 : t.testBit i with
    | false => rfl
    | true => rw [h i c2] at c; cases c
theorem bR_big {es : List (Int × Int)} (j : Nat) (hj : j < 4611686018427387904) : ∀ t, 1 ≤ t → t ≤ j → insE es (bset t) * (bR es j).2.2 = (bR es j).2.1 * pop t → pop t ≤ pop (bR es j).1 := by
  induction j with
  | zero => intro t h1 h2; omega
  | succ j ih =>
    intro t h1 h2
    have hd := (bR_den (es := es) j (by omega)).1
    rw [bR]
    by_cases hc : (bR es j).2.1 * pop (j + 1) < insE es (bset (j + 1)) * (bR es j).2.2 ∨ insE es (bset (j + 1)) * (bR es j).2.2 = (bR es j).2.1 * pop (j + 1) ∧ pop (bR es j).1 ≤ pop (j + 1)
    · rw [if_pos hc]
      show insE es (bset t) * pop (j + 1) = insE es (bset (j + 1)) * pop t → pop t ≤ pop (j + 1)
      intro he
      by_cases ht : t = j + 1
      · rw [ht]; exact Nat.le_refl _
      · have hpj := pop_ge (x := j + 1) (by omega) (by omega)
        have hpt := pop_ge (x := t) (by omega) (by omega)
        have hold := bR_max (es := es) j (by omega) t h1 (by omega)
        rcases hc with h | ⟨h, hb⟩
        · exfalso
          have e1 : insE es (bset t) * (bR es j).2.2 * pop (j + 1) = pop t * (insE es (bset (j + 1)) * (bR es j).2.2) := by
            have : insE es (bset t) * (bR es j).2.2 * pop (j + 1) = insE es (bset t) * pop (j + 1) * (bR es j).2.2 := by grind
            rw [this, he]; grind
          have e2 : (bR es j).2.1 * pop t * pop (j + 1) = pop t * ((bR es j).2.1 * pop (j + 1)) := by grind
          have h3 := Nat.mul_le_mul_right (pop (j + 1)) hold
          rw [e1, e2] at h3
          have h4 := Nat.le_of_mul_le_mul_left h3 hpt
          omega
        · refine Nat.le_trans (ih (by omega) t h1 (by omega) ?_) hb
          refine Nat.eq_of_mul_eq_mul_right hpj ?_
          have e1 : insE es (bset t) * (bR es j).2.2 * pop (j + 1) = insE es (bset t) * pop (j + 1) * (bR es j).2.2 := by grind
          have e2 : (bR es j).2.1 * pop t * pop (j + 1) = (bR es j).2.1 * pop (j + 1) * pop t := by grind
          rw [e1, he, e2, ← h]; grind
    · rw [if_neg hc]
      intro he
      by_cases ht : t = j + 1
      · subst ht
        exact Nat.le_of_not_lt fun hlt => hc (.inr ⟨he, by omega⟩)
      · exact ih (by omega) t h1 (by omega) he
theorem Lvl.ref {n : Nat} {es : List (Int × Int)} {x N D : Nat} (hn : n ≤ 40) (h0 : 0 < n) (h : Lvl n es 0 x N D) : (bR es (2 ^ n - 1)).1 = x ∧ mkN (bR es (2 ^ n - 1)).2.1 (bR es (2 ^ n - 1)).2.2 = (N : Int) ∧ mkD (bR es (2 ^ n - 1)).2.1 (bR es (2 ^ n - 1)).2.2 = (D : Int) := by
  have hx := h.lt (by omega)
  have hpow := pow62' (n := n) (by omega)
  have h1n : 2 ≤ 2 ^ n := by have := Nat.pow_le_pow_right (n := 2) (by omega) (show 1 ≤ n by omega); simpa using this
  have hpx := h.pos
  have hx1 : 1 ≤ x := Nat.pos_of_ne_zero fun e => by rw [e, pop_bl, bl_zero] at hpx; exact absurd hpx (Nat.lt_irrefl _)
  have hxn : x < 2 ^ n := mask_pow (fun v hv => (h.off v hv).1)
  obtain ⟨t, t1, t2, hb⟩ := bR_is (es := es) (2 ^ n - 1) (by omega)
  have htb : ∀ v, t.testBit v = true → v < n := fun v hv => by
    refine Classical.byContradiction fun hi => ?_
    rw [Nat.testBit_lt_two_pow (Nat.lt_of_lt_of_le (show t < 2 ^ n by omega) (Nat.pow_le_pow_right (by omega) (by omega)))] at hv
    cases hv
  have hpt := pop_ge (x := t) (by omega) (by omega)
  have hgz : ∀ y, gn es 0 y = insE es (bset y) := fun y => by
    unfold gn
    rw [Nat.or_zero, bset_zero, insE_nil, Nat.sub_zero]
  have hot : ∀ y : Nat, (∀ v, y.testBit v = true → v < n) → Off n 0 y := fun y hy v hv => ⟨hy v hv, Nat.zero_testBit v⟩
  have m1 := h.max t (hot t htb)
  rw [hgz] at m1
  have m2 := bR_max (es := es) (2 ^ n - 1) (by omega) x hx1 (by omega)
  rw [hb] at m2
  have m2' : insE es (bset x) * pop t ≤ insE es (bset t) * pop x := m2
  have heq := h.eq
  rw [hgz] at heq
  have m3 : N * pop t ≤ D * insE es (bset t) := by
    refine Nat.le_of_mul_le_mul_left ?_ hpx
    have e1 : pop x * (N * pop t) = (N * pop x) * pop t := by grind
    have e2 : pop x * (D * insE es (bset t)) = D * (insE es (bset t) * pop x) := by grind
    rw [e1, ← heq, e2, Nat.mul_assoc]
    exact Nat.mul_le_mul_left D m2'
  have m4 : D * insE es (bset t) = N * pop t := Nat.le_antisymm m1 m3
  have hsub := h.great t (hot t htb) (by rw [hgz]; exact m4)
  have hcr : insE es (bset x) * pop t = insE es (bset t) * pop x := by
    refine Nat.eq_of_mul_eq_mul_left h.D0 ?_
    have e1 : D * (insE es (bset x) * pop t) = D * insE es (bset x) * pop t := by grind
    have e2 : D * (insE es (bset t) * pop x) = D * insE es (bset t) * pop x := by grind
    rw [e1, e2, heq, m4]; grind
  have hbig := bR_big (es := es) (2 ^ n - 1) (by omega) x hx1 (by omega) (by rw [hb]; exact hcr)
  rw [hb] at hbig
  have htx := sub_pop hx hsub hbig
  subst htx
  rw [hb]
  have d1 := h.dN
  have d2 := h.dD
  rw [hgz] at d1 d2
  exact ⟨rfl, d1.symm, d2.symm⟩
end Go.Proofs.YticekkjambkifaaDoor.Fl
