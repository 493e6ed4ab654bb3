/- Package plex: masks, mask, plex, closed, slack. -/
import Derived.Test.YtfefginhlliccaaDoorCliB
import Derived.Test.YtfefginhlliccaaDoorPlxM
import Derived.Deep.QuietTactic
import Derived.BigQuiet
set_option linter.unusedVariables false
set_option linter.unusedSimpArgs false
namespace Go.Proofs.YtfefginhlliccaaDoor.Pl
open Go.RowKit CoBit CoCli Go.Proofs.YtfefginhlliccaaDoor

set_option maxRecDepth 100000 in
set_option maxHeartbeats 4000000 in
theorem pmasks_any (A : Option Addr) (m c : Nat) (n : Nat) (es : List (Int × Int)) (w : World) (h : RE w A m es) (hm : m ≤ 1099511627776) (hn : n ≤ 64) (hc : chkG n es = 0) :
    Calls Tryd.prog 49 #[.agg #[.int .i64 n, .slice A m c]] w fun e w' => ∃ g, e = .returned (.slice (some ⟨g, 0, none⟩) n n) ∧ w.heap.size ≤ g ∧ AU w' g (CoBit.rowsL n es) ∧ Below w.heap.size w w' := by
  have hml := Lib.hid h.len
  have hE : Hid (∀ u v : Int, (u, v) ∈ es → 0 ≤ u ∧ u < v ∧ v < n) := Lib.hid fun u v hm => chkE_lt (chkG_zero hc).2.2 (u, v) hm
  go_enter Tryd.func49, Tryd.ntmps49
  go_wp2_with (at_make; refine wpList_makeU rfl _ _ rfl rfl rfl (n := n) (by omega) (by omega) (by omega) ?_; intro w1 hA1 hg1; have hG1 := Blk.grown (Blk.new w 27 #[.int .i64 n, .slice A m c]) hg1 (by simp); have c1 := Blk.cell hG1 1; simp at c1)
  have hb1 : Below w.heap.size w w1 := ((Below.refl _ _).alloc (Nat.le_refl _) _).trans (grown_none_below hg1 _ (by simp))
  simp only [World.size_alloc] at hA1
  have hs1 := hA1.lt
  clear hg1 c1
  generalize hgb : w.heap.size + 1 = gb at *
  have hgb1 : w.heap.size < gb := by omega
  clear hgb
  have hr1 := RE.below h hb1 (Nat.le_refl _)
  go_loopw [12] (fun i wr => ∃ k : Nat, k ≤ m ∧ i = .int .i64 k ∧ AU wr gb (CoBit.rowsL n (es.take k)) ∧ Blk wr w.heap.size 27 #[.int .i64 n, .slice A m c] ∧ Below w.heap.size w wr) (fun i _ => m - (intOf i).toNat)
  case atStart => exact ⟨0, Nat.zero_le _, rfl, hA1, hG1, hb1⟩
  case round =>
    obtain ⟨k, hk, rfl, hA, hG, hb⟩ := hrel
    have hs := hb.size
    have hgl := hA.lt
    by_cases hlt : k < m
    · obtain ⟨ad, u, v, rfl, hbl, hy, hc1, hc2⟩ := (RE.below h hb (Nat.le_refl _)).get hlt
      have hst := CoBit.rowsL_take (N := n) hy.out
      have hrl := CoBit.rowsL_length n (es.take k)
      have hrlt := rows_lt (N := n) (es.take k) hn
      by_cases hok : 0 ≤ u ∧ u < v ∧ v < n
      · obtain ⟨k0, k1, k2⟩ := hok
        obtain ⟨u, rfl⟩ := Int.eq_ofNat_of_zero_le k0
        obtain ⟨v, rfl⟩ := Int.eq_ofNat_of_zero_le (show 0 ≤ v by omega)
        rw [putE_ok (by omega) (by omega)] at hst
        generalize CoBit.rowsL n (es.take k) = rows at *
        have a1 := getD_lt hrlt u
        have hA2 := hA.alloc (.cells #[.int .i64 u, .int .i64 v] 63)
        have hcu := hA2.cell (i := u) (by omega)
        have hfu := hA2.frozen u
        have o1 := bits_or_u64_nat (rows.getD u 0) (2 ^ v) a1 (two_pow_lt (by omega))
        have p1 := wrap_pow (v := v) (by omega)
        have p2 := wrap_pow (v := u) (by omega)
        have hset : (rows.set u (rows.getD u 0 ||| 2 ^ v)).length = n := by simp [hrl]
        have hrl' := hrl
        generalize hr1e : rows.getD u 0 = r1 at *
        replace hr1e := Lib.hid hr1e
        have hA3 := hA2.drew.set u (r1 ||| 2 ^ v)
        have hlt2 : r1 ||| 2 ^ v < 18446744073709551616 := CoBit.or_lt a1 (two_pow_lt (by omega))
        have a2 : (rows.set u (r1 ||| 2 ^ v)).getD v 0 < 18446744073709551616 := by
          refine getD_lt ?_ v
          intro x hx
          rcases List.mem_or_eq_of_mem_set hx with hx | rfl
          · exact hrlt x hx
          · exact hlt2
        have hcv := hA3.cell (i := v) (by omega)
        have hfv := hA3.frozen v
        generalize rows.set u (r1 ||| 2 ^ v) = rows2 at *
        have o2 := bits_or_u64_nat (rows2.getD v 0) (2 ^ u) a2 (two_pow_lt (by omega))
        generalize hr2e : rows2.getD v 0 = r2 at *
        replace hr2e := Lib.hid hr2e
        have hA4 := hA3.drew.set v (r2 ||| 2 ^ u)
        generalize rows2.set v (r2 ||| 2 ^ u) = rows3 at *
        replace hst := Lib.hid hst
        clear hrlt
        replace hrl : n ≤ rows.length := by omega
        replace hset : n ≤ rows2.length := by omega
        clear hrl'
        generalize r1 ||| 2 ^ v = q1 at *
        generalize r2 ||| 2 ^ u = q2 at *
        have i0 : (0 : Int) ≤ (u : Int) := Int.natCast_nonneg _
        have i1 : (u : Int) < (n : Int) := by omega
        have i2 : (0 : Int) ≤ (v : Int) := Int.natCast_nonneg _
        have hne : gb ≠ wr.heap.size := by omega
        rw [← p1] at o1
        rw [← p2] at o2
        clear p1 p2 a1 a2 hlt2 hcv hfv hcu hfu
        go_wp2
        have hN : Blk (wr.alloc (.cells #[.int .i64 u, .int .i64 v] 63)) wr.heap.size 63 #[.int .i64 u, .int .i64 v] := Blk.new _ _ _
        have hG2 := hG.alloc (.cells #[.int .i64 u, .int .i64 v] 63)
        have hb2 := hb.alloc hs (.cells #[.int .i64 u, .int .i64 v] 63)
        generalize wr.alloc (.cells #[.int .i64 u, .int .i64 v] 63) = W at *
        have n0 := Blk.cell hN 0
        have n1 := Blk.cell hN 1
        simp at n0 n1
        have hcu := hA2.cell (i := u) (by omega)
        rw [hr1e.out] at hcu
        have hfu := hA2.frozen u
        go_region
        go_wp2
        have hN2 : Blk (W.setCell ⟨gb, u, none⟩ (.int .u64 (q1 : Int))).drew wr.heap.size 63 #[.int .i64 u, .int .i64 v] := Blk.drew (Blk.far hN (p := ⟨gb, u, none⟩) (by simp; omega) _)
        have hG3 : Blk (W.setCell ⟨gb, u, none⟩ (.int .u64 (q1 : Int))).drew w.heap.size 27 #[.int .i64 n, .slice (some ad) m c] := Blk.drew (Blk.far hG2 (p := ⟨gb, u, none⟩) (by simp; omega) _)
        have hb3 : Below w.heap.size w (W.setCell ⟨gb, u, none⟩ (.int .u64 (q1 : Int))).drew := (hb2.setCell (p := ⟨gb, u, none⟩) (by simp; omega) _).drew
        have hA3' : AU (W.setCell ⟨gb, u, none⟩ (.int .u64 (q1 : Int))).drew gb rows2 := hA3
        have hA4' : AU ((W.setCell ⟨gb, u, none⟩ (.int .u64 (q1 : Int))).drew.setCell ⟨gb, v, none⟩ (.int .u64 (q2 : Int))) gb rows3 := hA4
        clear hN hG2 hb2 hA3 hA4 hA2 n0 n1 hcu hfu
        generalize (W.setCell ⟨gb, u, none⟩ (.int .u64 (q1 : Int))).drew = W2 at *
        have n0 := Blk.cell hN2 0
        have n1 := Blk.cell hN2 1
        simp at n0 n1
        have hcv := hA3'.cell (i := v) (by omega)
        rw [hr2e.out] at hcv
        have hfv := hA3'.frozen v
        go_region
        go_wp2
        go_roundw
        case rel => exact ⟨k + 1, by omega, by go_num, by rw [hst.out]; exact hA4', Blk.drew (Blk.far (p := ⟨gb, v, none⟩) hG3 (by simp; omega) _), (hb3.setCell (p := ⟨gb, v, none⟩) (by simp; omega) _).drew⟩
        case measure => simp [intOf]; omega
      · exact absurd (hE.out u v (List.mem_of_getElem? hy.out)) hok
    · have hfin : AU wr gb (CoBit.rowsL n es) := by
        rwa [List.take_of_length_le (by rw [hml.out]; omega)] at hA
      go_wp2
      go_ret
      exact ⟨gb, rfl, by omega, hfin, hb⟩

/-- Nodes as bits. -/
def mskN (xs : List Nat) : Nat := xs.foldl (fun a v => a ||| 2 ^ v) 0
theorem fold_or_lt (xs : List Nat) (h : ∀ x ∈ xs, x < 64) (a : Nat) (ha : a < 18446744073709551616) : xs.foldl (fun a v => a ||| 2 ^ v) a < 18446744073709551616 := by
  induction xs generalizing a with
  | nil => exact ha
  | cons x xs ih => exact ih (fun y hy => h y (List.mem_cons_of_mem _ hy)) _ (CoBit.or_lt ha (two_pow_lt (h x List.mem_cons_self)))
theorem mskN_lt {xs : List Nat} (h : ∀ x ∈ xs, x < 64) : mskN xs < 18446744073709551616 := fold_or_lt xs h 0 (by decide)
theorem fold_or_bit (xs : List Nat) (a i : Nat) : (xs.foldl (fun a v => a ||| 2 ^ v) a).testBit i = (a.testBit i || decide (i ∈ xs)) := by
  induction xs generalizing a with
  | nil => simp
  | cons x xs ih =>
    rw [List.foldl_cons, ih, Nat.testBit_or, Nat.testBit_two_pow]
    by_cases h : x = i
    · subst h; simp
    · have h' : ¬ i = x := fun e => h e.symm
      simp [h, h']
theorem mskN_bit (xs : List Nat) (i : Nat) : (mskN xs).testBit i = decide (i ∈ xs) := by unfold mskN; rw [fold_or_bit]; simp
theorem nat_sorted_ext {l l' : List Nat} (h : l.Pairwise (· < ·)) (h' : l'.Pairwise (· < ·)) (he : ∀ x, x ∈ l ↔ x ∈ l') : l = l' := by
  induction l generalizing l' with
  | nil =>
    cases l' with
    | nil => rfl
    | cons y l' => exact absurd ((he y).2 List.mem_cons_self) (by simp)
  | cons x l ih =>
    cases l' with
    | nil => exact absurd ((he x).1 List.mem_cons_self) (by simp)
    | cons y l' =>
      rw [List.pairwise_cons] at h h'
      have hxy : x = y := by
        rcases List.mem_cons.1 ((he x).1 List.mem_cons_self) with h1 | h1
        · exact h1
        · rcases List.mem_cons.1 ((he y).2 List.mem_cons_self) with h2 | h2
          · exact h2.symm
          · have := h'.1 x h1; have := h.1 y h2; omega
      subst hxy
      rw [ih h.2 h'.2 fun z => ?_]
      constructor
      · intro hz
        rcases List.mem_cons.1 ((he z).1 (List.mem_cons_of_mem _ hz)) with h1 | h1
        · subst h1; have := h.1 z hz; omega
        · exact h1
      · intro hz
        rcases List.mem_cons.1 ((he z).2 (List.mem_cons_of_mem _ hz)) with h1 | h1
        · subst h1; have := h'.1 z hz; omega
        · exact h1
theorem bl_msk {xs : List Nat} (hs : xs.Pairwise (· < ·)) (h : ∀ x ∈ xs, x < 64) : bl (mskN xs) = xs := by
  refine nat_sorted_ext (bl_sorted _) hs fun i => ?_
  rw [mem_bl, mskN_bit, decide_eq_true_iff]
  exact ⟨fun hh => hh.2, fun hh => ⟨h i hh, hh⟩⟩
theorem pop_and (r x : Nat) : pop (r &&& x) = ((bl x).filter fun i => r.testBit i).length := by
  rw [pop_bl, Nat.and_comm, bl_and]
theorem pop_dgs (rows : List Nat) (x v : Nat) : pop (rows.getD v 0 &&& x) = dgs (ad rows) (bl x) v := by rw [pop_and]; rfl
/-- A bit more. -/
theorem bl_or {x z : Nat} (hz : z < 64) (hx : x.testBit z = false) : (bl (x ||| 2 ^ z)).Perm (z :: bl x) := by
  have hn : (bl (x ||| 2 ^ z)).Nodup := (bl_sorted _).imp (fun h => Nat.ne_of_lt h)
  have hn2 : (z :: bl x).Nodup := List.nodup_cons.2 ⟨fun h => by rw [mem_bl, hx] at h; simp at h, (bl_sorted _).imp (fun h => Nat.ne_of_lt h)⟩
  refine (List.perm_ext_iff_of_nodup hn hn2).2 fun i => ?_
  rw [mem_bl, Nat.testBit_or, Nat.testBit_two_pow, List.mem_cons, mem_bl]
  by_cases h : z = i
  · subst h; simp [hz]
  · have h' : ¬ i = z := fun e => h e.symm
    simp [h, h']
theorem low_bit {m : Nat} (h0 : 0 < m) (hm : m < 18446744073709551616) : bits .and .u64 (m : Int) (IntKind.u64.wrap (-(m : Int))) = ((2 ^ Lib.ctz 64 m : Nat) : Int) := by
  have e : IntKind.u64.wrap (-(m : Int)) = ((18446744073709551616 - m : Nat) : Int) := by rw [IntKind.wrap_u64]; omega
  rw [e, bits_and_u64_nat m (18446744073709551616 - m) hm (by omega)]
  have := (Lib.lowest_bit 64 m (by omega) hm).1
  rw [show (2 : Nat) ^ 64 = 18446744073709551616 by decide +kernel] at this
  rw [this]

set_option maxRecDepth 100000 in
set_option maxHeartbeats 1000000 in
theorem mask_any (A : Option Addr) (m c : Nat) (xs : List Nat) (w : World) (h : RI w A m (nt xs)) (hm : m ≤ 1099511627776) (h64 : ∀ x ∈ xs, x < 64) :
    Calls Tryd.prog 50 #[.slice A m c] w fun e w' => e = .returned (.int .u64 (mskN xs : Nat)) ∧ w' = w := by
  have hml : m = xs.length := by have := h.len; rw [nt_length] at this; exact this.symm
  replace hml := Lib.hid hml
  go_enter Tryd.func50, Tryd.ntmps50
  go_wp2
  go_loopw [3, 8] (fun o i wr => ∃ k : Nat, k ≤ m ∧ o = .int .u64 (mskN (xs.take k) : Nat) ∧ i = .int .i64 k ∧ Hid (wr = w)) (fun _ i _ => m - (intOf i).toNat)
  case atStart => exact ⟨0, Nat.zero_le _, rfl, rfl, (by first | exact Lib.hid rfl | exact Lib.hid trivial)⟩
  case round =>
    obtain ⟨k, hk, rfl, rfl, hw⟩ := hrel
    obtain rfl := hw.out.symm
    clear hw
    by_cases hlt : k < m
    · obtain ⟨ad, y, rfl, hy, hc⟩ := h.get hlt
      obtain ⟨v, hv, hyv⟩ : ∃ v, xs[k]? = some v ∧ (v : Int) = y := by
        have := hy.out
        unfold nt at this
        rw [List.getElem?_map, Option.map_eq_some_iff] at this
        obtain ⟨v, h1, h2⟩ := this
        exact ⟨v, h1, h2⟩
      subst hyv
      have hv64 : v < 64 := h64 v (List.mem_of_getElem? hv)
      have o1 := bits_or_u64_nat (mskN (xs.take k)) (2 ^ v) (mskN_lt fun x hx => h64 x (List.mem_of_mem_take hx)) (two_pow_lt hv64)
      rw [← wrap_pow hv64] at o1
      have hst : mskN (xs.take (k + 1)) = mskN (xs.take k) ||| 2 ^ v := by
        unfold mskN
        rw [List.take_add_one, hv, List.foldl_append]; rfl
      replace hst := Lib.hid hst
      replace hv := Lib.hid hv
      have i0 : (0 : Int) ≤ (v : Int) := Int.natCast_nonneg _
      go_wp2
      go_roundw
      case rel => exact ⟨k + 1, by omega, by rw [hst.out], by go_num, (by first | exact Lib.hid rfl | exact Lib.hid trivial)⟩
      case measure => simp [intOf]; omega
    · have hfin : mskN (xs.take k) = mskN xs := by rw [List.take_of_length_le (by have := hml.out; omega)]
      replace hfin := Lib.hid hfin
      go_wp2
      go_ret
      exact ⟨congrArg (fun z : Nat => Ending.returned (.int .u64 (z : Int))) hfin.out, rfl⟩

theorem plx_all {rows : List Nat} {x k : Nat} {l : List Nat} (h : ∀ v ∈ l, (bl x).length ≤ dgs (ad rows) (bl x) v + k) (he : bl x = l) : plx (ad rows) k (bl x) := fun v hv => h v (he ▸ hv)

set_option maxRecDepth 100000 in
set_option maxHeartbeats 1000000 in
theorem plex_any (gr n : Nat) (rows : List Nat) (hl : rows.length = n) (hrl : ∀ x ∈ rows, x < 18446744073709551616) (x k : Nat) (hk : k ≤ 3) (w : World) (hx : x < 18446744073709551616) (hxn : ∀ i, x.testBit i = true → i < n) (hT : Tab w) (hA : AU w gr rows) :
    Calls Tryd.prog 48 #[.slice (some ⟨gr, 0, none⟩) n n, .int .u64 x, .int .i64 k] w fun e w' => e = .returned (.bool (decide (plx (ad rows) k (bl x)))) ∧ w' = w := by
  have hpb := bl_length x
  have hpx := Lib.hid (pop_bl x)
  obtain ⟨Z, hls, hZ⟩ : ∃ Z : Int, IntKind.i64.wrap (((pop x : Nat) : Int) - (k : Int)) = Z ∧ Hid (Z = ((pop x : Nat) : Int) - (k : Int)) := ⟨_, by rw [IntKind.wrap_i64]; have := hpx.out; omega, Lib.hid rfl⟩
  go_enter Tryd.func48, Tryd.ntmps48
  go_wp2_with (go_at_call 68; refine (ones_any x hx _).mono ?_; rintro e w' ⟨rfl, rfl⟩)
  generalize hP : pop x = P at *
  replace hP := Lib.hid hP
  go_loopw [8] (fun v wr => ∃ (m : Nat) (l : List Nat), v = .int .u64 m ∧ m < 18446744073709551616 ∧ Hid (bl x = l ++ bl m) ∧ Hid (∀ v ∈ l, (bl x).length ≤ dgs (ad rows) (bl x) v + k) ∧ Hid (wr = w)) (fun v _ => (intOf v).toNat)
  case atStart => exact ⟨x, [], rfl, hx, Lib.hid rfl, Lib.hid (by simp), (by first | exact Lib.hid rfl | exact Lib.hid trivial)⟩
  case round =>
    obtain ⟨m, l, rfl, hm, hl1, hg, hw⟩ := hrel
    obtain rfl := hw.out.symm
    clear hw
    by_cases h0 : 0 < m
    · have hz : ((m : Int) != 0) = true := by simp; omega
      have hst := bl_step h0 hm
      have hl2 : bl x = l ++ Lib.ctz 64 m :: bl (m &&& (m - 1)) := by rw [hl1.out, hst]
      have hin : Lib.ctz 64 m ∈ bl x := by rw [hl2]; simp
      rw [mem_bl] at hin
      have hlt := and_pred_lt h0
      have hlt2 := and_lt' (y := m - 1) hm
      have hand := bits_and_u64_nat m (m - 1) hm (by omega)
      have hsub : IntKind.u64.wrap ((m : Int) - 1) = ((m - 1 : Nat) : Int) := by rw [show (m : Int) - 1 = ((m - 1 : Nat) : Int) by omega]; exact u64_in _ (by omega)
      have hl3 : bl x = (l ++ [Lib.ctz 64 m]) ++ bl (m &&& (m - 1)) := by rw [hl2]; simp
      have hzn := hxn _ hin.2
      have htz := tz_any m h0 hm
      have hzin : Lib.ctz 64 m ∈ bl x := mem_bl.2 hin
      clear hin hst hl2
      generalize Lib.ctz 64 m = z at *
      generalize m &&& (m - 1) = m' at *
      have hr64 := getD_lt hrl z
      have hand2 := bits_and_u64_nat (rows.getD z 0) x hr64 hx
      have hbr := and_lt (x := rows.getD z 0) hx
      have hcz := hA.cell (i := z) (by omega)
      have hpd := pop_dgs rows x z
      have hoc := ones_any _ hbr
      generalize rows.getD z 0 = rz at *
      generalize rz &&& x = rx at *
      rw [hpd] at hoc
      clear hpd
      have hg2 : (bl x).length ≤ dgs (ad rows) (bl x) z + k → ∀ v ∈ l ++ [z], (bl x).length ≤ dgs (ad rows) (bl x) v + k := fun h v hv => by
        rw [List.mem_append, List.mem_singleton] at hv
        rcases hv with hv | rfl
        · exact hg.out v hv
        · exact h
      have hng : ¬ (bl x).length ≤ dgs (ad rows) (bl x) z + k → ¬ plx (ad rows) k (bl x) := fun h hp => h (hp z hzin)
      generalize hD : dgs (ad rows) (bl x) z = D at *
      replace hl3 := Lib.hid hl3
      replace htz := Lib.hid htz
      replace hoc := Lib.hid hoc
      replace hD := Lib.hid hD
      replace hg2 := Lib.hid hg2
      replace hng := Lib.hid hng
      have i0 : (0 : Int) ≤ (z : Int) := Int.natCast_nonneg _
      have i1 : (z : Int) < (n : Int) := by omega
      clear hzin hpb hls
      by_cases hb : P ≤ D + k
      · have hd : decide ((D : Int) < Z) = false := by have := hZ.out; simp; omega
        go_wp2_with fail
        refine (htz.out _ hT).mono ?_
        rintro e w1 ⟨rfl, rfl⟩
        go_wp2_with fail
        refine (hoc.out _).mono ?_
        rintro e w1 ⟨rfl, rfl⟩
        go_wp2_with fail
        go_roundw
        case rel => exact ⟨m', _, rfl, hlt2, hl3, Lib.hid (hg2.out (by have := hpx.out; omega)), (by first | exact Lib.hid rfl | exact Lib.hid trivial)⟩
        case measure => simp [intOf]; omega
      · have hd : decide ((D : Int) < Z) = true := by have := hZ.out; simp; omega
        have hfin : decide (plx (ad rows) k (bl x)) = false := decide_eq_false (hng.out (by have := hpx.out; omega))
        replace hfin := Lib.hid hfin
        go_wp2_with fail
        refine (htz.out _ hT).mono ?_
        rintro e w1 ⟨rfl, rfl⟩
        go_wp2_with fail
        refine (hoc.out _).mono ?_
        rintro e w1 ⟨rfl, rfl⟩
        go_wp2_with fail
        go_ret
        exact ⟨retBool hfin.out.symm, rfl⟩
    · have hz : ((m : Int) != 0) = false := by simp; omega
      have hfin : decide (plx (ad rows) k (bl x)) = true := decide_eq_true (plx_all hg.out (by have := hl1.out; rwa [show m = 0 by omega, bl_zero, List.append_nil] at this))
      replace hfin := Lib.hid hfin
      go_wp2
      go_ret
      exact ⟨retBool hfin.out.symm, rfl⟩
set_option maxHeartbeats 400000 in
theorem slack_any (k : Int) (w : World) :
    Calls Tryd.prog 46 #[.int .i64 k] w fun e w' => e = .returned (.bool (decide (1 ≤ k ∧ k ≤ 3))) ∧ w' = w := by
  by_cases h1 : 1 ≤ k
  · have q1 : decide (1 ≤ k) = true := decide_eq_true h1
    have q2 : decide (1 ≤ k ∧ k ≤ 3) = decide (k ≤ 3) := by simp [h1]
    replace q2 := Lib.hid q2
    go_enter Tryd.func46, Tryd.ntmps46
    go_wp2
    go_ret
    exact ⟨by first | rfl | exact retBool q2.out.symm, rfl⟩
  · have q1 : decide (1 ≤ k) = false := decide_eq_false h1
    have q2 : decide (1 ≤ k ∧ k ≤ 3) = false := by simp; omega
    replace q2 := Lib.hid q2
    go_enter Tryd.func46, Tryd.ntmps46
    go_wp2
    go_ret
    exact ⟨by first | rfl | exact retBool q2.out.symm, rfl⟩

theorem shl_all {n : Nat} (hn : n ≤ 64) : IntKind.u64.wrap (IntKind.u64.wrap ((2 : Int) ^ n) - 1) = ((2 ^ n - 1 : Nat) : Int) := by
  by_cases h : n = 64
  · subst h; decide +kernel
  · exact wrap_pow1 (by omega)
theorem pow_pred_lt {n : Nat} (hn : n ≤ 64) : 2 ^ n - 1 < 18446744073709551616 := by
  have : (2 : Nat) ^ n ≤ 2 ^ 64 := Nat.pow_le_pow_right (by omega) hn
  have e64 : (2 : Nat) ^ 64 = 18446744073709551616 := by decide +kernel
  have h0 : 0 < (2 : Nat) ^ n := Nat.two_pow_pos _
  omega
/-- The nodes that are not in a set. -/
def outN (n x : Nat) : Nat := (2 ^ n - 1) &&& (18446744073709551615 - x)
theorem outN_bit {n x : Nat} (hn : n ≤ 64) (hx : x < 18446744073709551616) (i : Nat) : (outN n x).testBit i = (decide (i < n) && !x.testBit i) := by
  unfold outN
  have e64 : (2 : Nat) ^ 64 = 18446744073709551616 := by decide +kernel
  have h2 : 18446744073709551615 - x = 2 ^ 64 - (x + 1) := by rw [e64]; omega
  rw [Nat.testBit_and, Nat.testBit_two_pow_sub_one, h2, Nat.testBit_two_pow_sub_succ (by omega)]
  by_cases hi : i < n
  · simp [hi, show i < 64 by omega]
  · simp [hi]
theorem clo_none {a : Nat → Nat → Bool} {n k : Nat} {S l : List Nat} (h : ∀ v ∈ l, ¬ plx a k (v :: S)) (hl : ∀ v, v < n → v ∉ S → v ∈ l) : clo a n k S = true := clo_iff.2 fun v hv hn => h v (hl v hv hn)

set_option maxRecDepth 100000 in
set_option maxHeartbeats 1000000 in
theorem closed_any (gr n : Nat) (rows : List Nat) (hl : rows.length = n) (hn : n ≤ 64) (hrl : ∀ x ∈ rows, x < 18446744073709551616) (x k : Nat) (hk : k ≤ 3) (w : World) (hx : x < 18446744073709551616) (hxn : ∀ i, x.testBit i = true → i < n) (hT : Tab w) (hA : AU w gr rows) :
    Calls Tryd.prog 52 #[.slice (some ⟨gr, 0, none⟩) n n, .int .u64 x, .int .i64 k] w fun e w' => e = .returned (.bool (clo (ad rows) n k (bl x))) ∧ w' = w := by
  have hX : outN n x < 18446744073709551616 := and_lt' (pow_pred_lt hn)
  have e1 := u64_andNot_nat (2 ^ n - 1) x (pow_pred_lt hn) hx
  have e2 : (2 ^ n - 1) &&& (18446744073709551615 - x) = outN n x := rfl
  rw [e2, ← shl_all hn] at e1
  clear e2
  have hout : ∀ v, v < n → v ∉ bl x → v ∈ bl (outN n x) := fun v hv hnx => by
    rw [mem_bl, outN_bit hn hx]
    refine ⟨by omega, ?_⟩
    have : x.testBit v = false := by
      cases h : x.testBit v with
      | false => rfl
      | true => exact absurd (mem_bl.2 ⟨by omega, h⟩) hnx
    simp [hv, this]
  have hin2 : ∀ v, v ∈ bl (outN n x) → v < n ∧ x.testBit v = false ∧ v < 64 := fun v hv => by
    rw [mem_bl, outN_bit hn hx] at hv
    simp at hv
    exact ⟨hv.2.1, hv.2.2, hv.1⟩
  generalize outN n x = X at *
  have i0 : (0 : Int) ≤ (n : Int) := Int.natCast_nonneg _
  replace hout := Lib.hid hout
  replace hin2 := Lib.hid hin2
  go_enter Tryd.func52, Tryd.ntmps52
  go_wp2
  go_loopw [7] (fun v wr => ∃ (m : Nat) (l : List Nat), v = .int .u64 m ∧ m < 18446744073709551616 ∧ Hid (bl X = l ++ bl m) ∧ Hid (∀ v ∈ l, ¬ plx (ad rows) k (v :: bl x)) ∧ Hid (wr = w)) (fun v _ => (intOf v).toNat)
  case atStart => exact ⟨X, [], rfl, hX, Lib.hid rfl, Lib.hid (by simp), (by first | exact Lib.hid rfl | exact Lib.hid trivial)⟩
  case round =>
    obtain ⟨m, l, rfl, hm, hl1, hg, hw⟩ := hrel
    obtain rfl := hw.out.symm
    clear hw
    by_cases h0 : 0 < m
    · have hz : ((m : Int) != 0) = true := by simp; omega
      have hst := bl_step h0 hm
      have hl2 : bl X = l ++ Lib.ctz 64 m :: bl (m &&& (m - 1)) := by rw [hl1.out, hst]
      have hin : Lib.ctz 64 m ∈ bl X := by rw [hl2]; simp
      obtain ⟨z1, z2, z3⟩ := hin2.out _ hin
      have hlt := and_pred_lt h0
      have hlt2 := and_lt' (y := m - 1) hm
      have hand := bits_and_u64_nat m (m - 1) hm (by omega)
      have hsub : IntKind.u64.wrap ((m : Int) - 1) = ((m - 1 : Nat) : Int) := by rw [show (m : Int) - 1 = ((m - 1 : Nat) : Int) by omega]; exact u64_in _ (by omega)
      have hl3 : bl X = (l ++ [Lib.ctz 64 m]) ++ bl (m &&& (m - 1)) := by rw [hl2]; simp
      have hlow := low_bit h0 hm
      clear hin hst hl2
      generalize Lib.ctz 64 m = z at *
      generalize m &&& (m - 1) = m' at *
      have hor := bits_or_u64_nat x (2 ^ z) hx (two_pow_lt z3)
      have hxz : x ||| 2 ^ z < 18446744073709551616 := CoBit.or_lt hx (two_pow_lt z3)
      have hxzn : ∀ i, (x ||| 2 ^ z).testBit i = true → i < n := fun i hi => by
        rw [Nat.testBit_or, Nat.testBit_two_pow] at hi
        simp at hi
        rcases hi with hi | hi
        · exact hxn i hi
        · omega
      have kp := plex_any gr n rows hl hrl (x ||| 2 ^ z) k hk w hxz hxzn hT hA
      have hpp : decide (plx (ad rows) k (bl (x ||| 2 ^ z))) = decide (plx (ad rows) k (z :: bl x)) := by rw [Bool.eq_iff_iff]; simp only [decide_eq_true_eq]; exact plx_perm (bl_or z3 z2)
      rw [hpp] at kp
      clear hpp hxzn
      generalize x ||| 2 ^ z = xz at *
      generalize (2 : Nat) ^ z = bz at *
      replace hl3 := Lib.hid hl3
      replace kp := Lib.hid kp
      by_cases hp : plx (ad rows) k (z :: bl x)
      · have hd : decide (plx (ad rows) k (z :: bl x)) = true := decide_eq_true hp
        have hfin : clo (ad rows) n k (bl x) = false := by
          cases h : clo (ad rows) n k (bl x) with
          | false => rfl
          | true => exact absurd hp (clo_iff.1 h z z1 (fun hh => by rw [mem_bl, z2] at hh; simp at hh))
        rw [hd] at kp
        clear hp hd
        replace hfin := Lib.hid hfin
        go_wp2_with (go_at_call 48; refine kp.out.mono ?_; rintro e w1 ⟨rfl, rfl⟩)
        go_ret
        exact ⟨retBool hfin.out.symm, rfl⟩
      · have hd : decide (plx (ad rows) k (z :: bl x)) = false := decide_eq_false hp
        have hg2 : ∀ v ∈ l ++ [z], ¬ plx (ad rows) k (v :: bl x) := fun v hv => by
          rw [List.mem_append, List.mem_singleton] at hv
          rcases hv with hv | rfl
          · exact hg.out v hv
          · exact hp
        rw [hd] at kp
        clear hp hd
        replace hg2 := Lib.hid hg2
        go_wp2_with (go_at_call 48; refine kp.out.mono ?_; rintro e w1 ⟨rfl, rfl⟩)
        go_roundw
        case rel => exact ⟨m', _, rfl, hlt2, hl3, hg2, (by first | exact Lib.hid rfl | exact Lib.hid trivial)⟩
        case measure => simp [intOf]; omega
    · have hz : ((m : Int) != 0) = false := by simp; omega
      have hfin : clo (ad rows) n k (bl x) = true := clo_none hg.out (fun v h1 h2 => by have := hout.out v h1 h2; rwa [hl1.out, show m = 0 by omega, bl_zero, List.append_nil] at this)
      replace hfin := Lib.hid hfin
      go_wp2
      go_ret
      exact ⟨retBool hfin.out.symm, rfl⟩
end Go.Proofs.YtfefginhlliccaaDoor.Pl
