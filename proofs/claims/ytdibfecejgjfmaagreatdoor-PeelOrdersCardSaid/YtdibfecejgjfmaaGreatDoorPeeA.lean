/- Package peel: inside, walked. -/
import Derived.Test.YtdibfecejgjfmaaGreatDoorPeeM
import Derived.Test.YtdibfecejgjfmaaGreatDoorCorB
set_option linter.unusedVariables false
namespace Go.Proofs.YtdibfecejgjfmaaGreatDoor
open Go.RowKit CoBit

theorem sum_take {l : List Nat} {k x : Nat} (h : l[k]? = some x) : (l.take (k + 1)).sum = (l.take k).sum + x := by
  have : l.take (k + 1) = l.take k ++ [x] := by
    rw [List.take_succ_eq_append_getElem (List.getElem?_eq_some_iff.1 h).1, (List.getElem?_eq_some_iff.1 h).2]
  rw [this, List.sum_append]; simp
/-- The set of the bits of x. -/
def bset (x : Nat) : List Int := nts (bl x)
theorem bset_sorted (x : Nat) : (bset x).Pairwise (· < ·) := nts_sorted (bl_sorted x)
theorem mem_bset {x i : Nat} : (i : Int) ∈ bset x ↔ i < 64 ∧ x.testBit i = true := by
  unfold bset
  rw [mem_nts', mem_bl]
/-- The sum of the degrees of the first k nodes of a set, within it. -/
def psum (n : Nat) (es : List (Int × Int)) (x k : Nat) : Nat := (((bset x).take k).map fun v => dg (nbG n es) (bset x) v).sum
theorem psum_step {n : Nat} {es : List (Int × Int)} {x k : Nat} {v : Int} (h : (bset x)[k]? = some v) : psum n es x (k + 1) = psum n es x k + dg (nbG n es) (bset x) v := by
  unfold psum
  rw [take_at h, List.map_append, List.sum_append]; simp
theorem bset_length (x : Nat) : (bset x).length ≤ 64 := by unfold bset; rw [nts_length]; exact bl_length x
theorem dg_set (nb : Int → List Int) {S : List Int} (hn : S.Nodup) (v : Int) : dg nb S v ≤ (nb v).length := List.length_filter_le _ _
theorem psum_all {n : Nat} {es : List (Int × Int)} {x k : Nat} (hc : chkG n es = 0) (hk : (bset x).length ≤ k) : psum n es x k = 2 * insE es (bset x) := by
  unfold psum
  rw [List.take_of_length_le hk]
  exact hand hc (sorted_nodup (bset_sorted x))
theorem bset_at {n x k : Nat} {v : Int} (hx : ∀ i, x.testBit i = true → i < n) (h : (bset x)[k]? = some v) : ∃ u : Nat, v = (u : Int) ∧ u < n := by
  have hm := List.mem_of_getElem? h
  obtain ⟨u, hu, rfl⟩ := mem_nts.1 hm
  exact ⟨u, rfl, hx u (mem_bl.1 hu).2⟩
theorem pop_row {n : Nat} {es : List (Int × Int)} (hc : chkG n es = 0) (hn : n ≤ 64) (v x : Nat) : pop ((rowsL n es).getD v 0 &&& x) = dg (nbG n es) (bset x) v :=
  pop_dg hc hn v x (bset x) fun i hi => by rw [mem_bset]; exact ⟨fun h => ⟨by omega, h⟩, fun h => h.2⟩

set_option maxRecDepth 100000 in
set_option maxHeartbeats 1000000 in
theorem inside_any (gr n : Nat) (es : List (Int × Int)) (x : Nat) (w : World) (hT : Tab w) (hA : AU w gr (rowsL n es)) (hc : chkG n es = 0) (hn : n ≤ 64) (hx : x < 18446744073709551616) (hxn : ∀ i, x.testBit i = true → i < n) :
    Calls Tryz.prog 58 #[.slice (some ⟨gr, 0, none⟩) n n, .int .u64 x] w fun e w' => e = .returned (.int .i64 ((insE es (bset x) : Nat) : Int)) ∧ Below w.heap.size w w' := by
  have hgl := hA.lt
  have hrl := Lib.hid (rowsL_length n es)
  have hr64 := rows_lt es hn
  go_enter Tryz.func58, Tryz.ntmps58
  go_wp2_with fail
  refine (list_any x hx w hT).mono ?_
  rintro e w1 ⟨A1, n1, c1, rfl, hn1, hr1, hb1, hf1⟩
  have hA1 := hA.below hb1 hgl
  have hl1 := Lib.hid hr1.len
  have hn64 : n1 ≤ 64 := by have := bset_length x; have := hl1.out; unfold bset at *; omega
  clear hA
  go_wp2_with fail
  go_loop [5, 11] (fun s i => ∃ (k y : Nat), k ≤ n1 ∧ i = .int .i64 k ∧ s = .int .i64 y ∧ y ≤ 64 * k ∧ Hid (y = psum n es x k)) (fun _ i => n1 - (intOf i).toNat)
  case atStart => exact ⟨0, 0, Nat.zero_le _, rfl, rfl, Nat.zero_le _, Lib.hid rfl⟩
  case round =>
    obtain ⟨k, y, hk, rfl, rfl, hy64, hy⟩ := hrel
    by_cases hlt : k < n1
    · obtain ⟨ad, v, rfl, hv, hcv⟩ := hr1.get hlt
      have hv' : (bset x)[k]? = some v := hv.out
      obtain ⟨u, rfl, hun⟩ := bset_at hxn hv'
      have hcu := hA1.cell (i := u) (by rw [hrl.out]; exact hun)
      have hst := psum_step (n := n) (es := es) hv'
      rw [← hy.out, ← pop_row hc hn u x] at hst
      have hrow := getD_lt hr64 u
      generalize (rowsL n es).getD u 0 = row at *
      have hand := u64_and_nat row x hrow hx
      have hlt2 : row &&& x < 18446744073709551616 := and_lt hx
      have hpop : pop (row &&& x) ≤ 64 := by rw [pop_bl]; exact bl_length _
      have i0 : (0 : Int) ≤ (u : Int) := Int.natCast_nonneg _
      have i1 : (u : Int) < (n : Int) := by omega
      replace hst := Lib.hid hst
      clear hv hv'
      go_wp2_with fail
      refine (count_any (row &&& x) hlt2 _).mono ?_
      rintro e w2 ⟨rfl, rfl⟩
      generalize pop (row &&& x) = p at *
      go_wp2_with fail
      go_round
      case rel => exact ⟨k + 1, y + p, by omega, by go_num, by go_num, by omega, Lib.hid hst.out.symm⟩
      case measure => simp [intOf]; omega
    · have hfin : (y : Int) / 2 = ((insE es (bset x) : Nat) : Int) := by
        have h1 := psum_all (es := es) (x := x) (k := k) hc (by unfold bset; rw [hl1.out]; omega)
        have := hy.out
        omega
      replace hfin := Lib.hid hfin
      go_wp2_with fail
      go_ret
      exact ⟨retInt hfin.out, hb1⟩
end Go.Proofs.YtdibfecejgjfmaaGreatDoor
