/- The reference's h-index: walks. -/
import Derived.Test.YtciehcageghggaaDoorHidM
import Derived.Test.YtciehcageghggaaDoorMakB
set_option linter.unusedVariables false
namespace Go.Proofs.YtciehcageghggaaDoor
open Go.RowKit CoBit

theorem last_at {l : List Int} {i : Nat} {x y : Int} (hy : l[i - 1]? = some y) (hi : 0 < i) (h : ∀ z ∈ l.drop i, z < x) (hlt : y < x) : ∀ z ∈ l.drop (i - 1), z < x := by
  intro z hz
  rw [drop_at hy, List.mem_cons, Nat.sub_add_cancel hi] at hz
  rcases hz with rfl | hz
  · exact hlt
  · exact h z hz

set_option maxRecDepth 100000 in
set_option maxHeartbeats 2000000 in
theorem falling_any (A : Option Addr) (n c : Nat) (xs : List Int) (w : World) (h : RI w A n xs) (hn : n ≤ 1000000) :
    Calls Tryd.prog 48 #[.slice A n c] w fun e w' => ∃ l, RetI w l e w' ∧ Fall xs l := by
  obtain ⟨i0, hi0, hz0, hz1, hz2⟩ := info_parts int_info
  have hxl := Lib.hid h.len
  go_enter Tryd.func48, Tryd.ntmps48
  go_wp2_with fail
  go_loopw [3, 9] (fun v i wr => ∃ (k : Nat) (l : List Int), k ≤ n ∧ i = .int .i64 k ∧ Hid (Fall (xs.take k) l) ∧ OI wr w.heap.size v l ∧ Below w.heap.size w wr) (fun _ i _ => n - (intOf i).toNat)
  case atStart => exact ⟨0, [], Nat.zero_le _, rfl, Lib.hid fall_nil, OI.nil_, Below.refl _ _⟩
  case round =>
    obtain ⟨k, l, hk, rfl, hv, ho, hb⟩ := hrel
    by_cases hlt : k < n
    · obtain ⟨ad, x, rfl, hx, hcx⟩ := (RI.below h hb (Nat.le_refl _)).get hlt
      have hs := hb.size
      obtain ⟨A1, m, c1, rfl, hm, hmc, hcm, hr⟩ := ho.form
      have hmk : m ≤ k := by
        have h1 := hv.out.1.length_eq
        have := hxl.out
        rw [List.length_take] at h1
        omega
      have hlen := Lib.hid hm
      clear hm
      go_wp2_with fail
      go_loop [6] (fun i => ∃ j : Nat, j ≤ m ∧ i = .int .i64 j ∧ Hid (∀ z ∈ l.drop j, z < x)) (fun i => (intOf i).toNat)
      case atStart => exact ⟨m, Nat.le_refl _, rfl, Lib.hid (fun z hz => by rw [List.drop_of_length_le (by rw [← hlen.out]; omega)] at hz; cases hz)⟩
      case round =>
        obtain ⟨j, hj, rfl, hz⟩ := hrel
        by_cases hcase : 0 < j ∧ l.getD (j - 1) 0 < x
        · obtain ⟨h0, hlx⟩ := hcase
          obtain ⟨ad1, y, rfl, hy, hcy⟩ := hr.get (k := j - 1) (by omega)
          have hyx : y < x := by
            rw [List.getD_eq_getElem?_getD, hy.out] at hlx; exact hlx
          have hz' := Lib.hid (last_at hy.out h0 hz.out hyx)
          obtain ⟨j', rfl⟩ : ∃ j', j = j' + 1 := ⟨j - 1, by omega⟩
          rw [Nat.add_sub_cancel] at hcy hz'
          have e1 : ((j' + 1 : Nat) : Int) - 1 = (j' : Int) := by omega
          clear hlx
          go_wp2_with fail
          go_round
          case rel => exact ⟨j', by omega, by go_num, hz'⟩
          case measure => simp [intOf]
        · have hp : Hid (0 < j → ∀ y, l[j - 1]? = some y → x ≤ y) := Lib.hid fun h0 y hy => by
            rcases Int.lt_or_le y x with h | h
            · exact absurd ⟨h0, by rw [List.getD_eq_getElem?_getD, hy]; exact h⟩ hcase
            · exact h
          have hv3 := Lib.hid (fall_put hv.out hx.out hz.out hp.out (by rw [← hlen.out]; exact hj))
          have htake := Lib.hid (ho.take (k := j) hlen.out hj)
          have hfr := ho.fresh hlen.out
          have hblk := ho.block_lt
          have i0' : (0 : Int) ≤ (j : Int) := Int.natCast_nonneg _
          have i1 : (j : Int) ≤ (m : Int) := by omega
          have i2 : (m : Int) ≤ (c1 : Int) := by omega
          have i3 : (j : Int) ≤ (c1 : Int) := by omega
          have hyx : Hid (0 < j → ∃ ad1 y, A1 = some ad1 ∧ wr.cell? (ad1.add (j - 1)) = some (.int .i64 y) ∧ (y < x → False)) := Lib.hid fun h0 => by
            obtain ⟨ad1, y, e, hy, hcy⟩ := hr.get (k := j - 1) (by omega)
            exact ⟨ad1, y, e, hcy, fun hlt => by have := hp.out h0 y hy.out; omega⟩
          have hO := (own_one (w := wr) x (Nat.le_refl wr.heap.size)).drew
          have hR := RI.cut ((hr.alloc (.cells #[.int .i64 x] 3)).drew) hj hmc
          have hone := ints_one (l.drop j)
          have tok1 : True := trivial
          clear hcase hv hz hp h
          by_cases h0 : 0 < j
          case' pos =>
            obtain ⟨ad1, y, rfl, hcy, hyx'⟩ := hyx.out h0
            have hyx2 : ¬ y < x := hyx'
            clear hyx hyx'
            have q0 : (0 : Int) ≤ (j : Int) - 1 := by omega
            have q1 : (1 : Int) ≤ (j : Int) := by omega
            have q2 : (j : Int) - 1 < (m : Int) := by omega
            have q3 : ((j : Int) - 1).toNat = j - 1 := by omega
            go_wp2_with fail
            clear q3
          case' neg =>
            clear hyx
            go_wp2_with fail
          all_goals
            go_region_held3 (fun _ => True) (trivial) ((first | (have _t := tok1; refine step_append_any (wr.alloc (.cells #[.int .i64 x] 3)).drew (by rfl) (.tmp 32) (.tmp 35) 22 (by rfl) wr.heap.size 3 i0 _ 1 8 Tryd.underlying22 hi0 hz0 hz1 hz2 rfl (by omega) (.slice (some ⟨wr.heap.size, 0, none⟩) 1 1) 1 (ints [x]) (by rfl) hO _ _ _ _ _ (by rfl) hR hone (by unfold maxLen; omega) (by omega) (by simp) ?_; intro v2 w2 hown2 hg3 hat3; clear tok1 _t; have hb2 : Below wr.heap.size wr w2 := below_own (((Below.refl _ _).alloc (Nat.le_refl _) _).drew) hg3 (by simp) (own_block hO); obtain ⟨A2, c2, rfl, hc2, hcm2⟩ := own_form hown2; have hR2 := Reads.of_own hown2; have ho2 := World.ownsRow.kept htake.out (row := none) (w' := w2) ⟨hb2.os, hb2.tape, hb2.output, hb2.size, fun q hq _ => hb2.block q hq⟩ (by first | (simp [Value.ownBlock]; done) | (simp [Value.ownBlock]; cases A1 <;> simp))) | (refine step_append_any w2 (by rfl) (.tmp 30) (.tmp 36) 22 (by rfl) w.heap.size 3 i0 _ 1 8 Tryd.underlying22 hi0 hz0 hz1 hz2 rfl (by omega) _ _ _ (by rfl) ho2 _ A2 _ c2 _ (by rfl) hR2 (by rw [← ints_append]; exact ints_one _) (by unfold maxLen; omega) (by omega) (by have := hb2.size; omega) ?_; intro v3 w3 hown3 hg4 hat4)))
            have hs3 := hg4.size
            have hs2 := hb2.size
            have ho3 : OI w3 w.heap.size v3 (l.take j ++ [x] ++ l.drop j) := by
              unfold OI
              have hl : (l.take j ++ [x] ++ l.drop j).length = j + (1 + (m - j)) := by
                have := hlen.out
                simp; omega
              rw [hl, ints_append, ints_append, List.append_assoc]; exact hown3
            have hgf : Below w.heap.size w w3 := (hb.trans (hb2.mono (by omega))).grown hg4 (by omega) (fun q hq => own_block ho2 q hq)
            clear hown2 hown3 hg3 hg4 hO hR hR2 ho2 hb2 hr ho hb
            go_wp2_with fail
            go_roundw
            case rel => exact ⟨k + 1, _, by omega, by go_num, hv3, ho3, hgf⟩
            case measure => simp [intOf]; omega
    · have hfin : ∃ l, RetI w l (.returned u3) wr ∧ Fall xs l := by
        refine ⟨l, ho.ret hb (Nat.le_refl _), ?_⟩
        have := hv.out
        rwa [List.take_of_length_le (by rw [hxl.out]; omega)] at this
      replace hfin := Lib.hid hfin
      clear ho hb
      go_wp2_with fail
      go_ret
      exact hfin.out

set_option maxRecDepth 100000 in
set_option maxHeartbeats 2000000 in
theorem h_any (A : Option Addr) (n c : Nat) (xs : List Int) (w : World) (h : RI w A n xs) (hn : n ≤ 1000000) :
    Calls Tryd.prog 26 #[.slice A n c] w fun e w' => ∃ h : Nat, e = .returned (.int .i64 h) ∧ IsH xs h ∧ Below w.heap.size w w' := by
  have hxl := Lib.hid h.len
  go_enter Tryd.func26, Tryd.ntmps26
  go_wp2_with fail
  refine (falling_any A n c xs w h hn).mono ?_
  rintro e w1 ⟨l, ⟨A1, n1, c1, rfl, hn1, hr1, hb1, hf1⟩, hl⟩
  have hln := Lib.hid hr1.len
  have hn1' : n1 ≤ n := by
    have := hl.1.length_eq
    have := hxl.out
    have := hln.out
    omega
  replace hl := Lib.hid hl
  go_wp2_with fail
  go_loop [3, 9] (fun v i => ∃ (k h : Nat), k ≤ n1 ∧ i = .int .i64 k ∧ v = .int .i64 h ∧ Hid (HTo l k h)) (fun _ i => n1 - (intOf i).toNat)
  case atStart => exact ⟨0, 0, Nat.zero_le _, rfl, rfl, Lib.hid (hTo_start l)⟩
  case round =>
    obtain ⟨k, h, hk, rfl, rfl, hh⟩ := hrel
    by_cases hlt : k < n1
    · obtain ⟨ad, x, rfl, hx, hcx⟩ := hr1.get hlt
      by_cases hc : (k : Int) + 1 ≤ x
      · have hh2 := Lib.hid (hTo_yes hh.out hx.out hc)
        go_wp2_with fail
        go_round
        case rel => exact ⟨k + 1, k + 1, by omega, by go_num, by go_num, hh2⟩
        case measure => simp [intOf]; omega
      · have hh2 := Lib.hid (hTo_no hh.out hx.out hc)
        go_wp2_with fail
        go_round
        case rel => exact ⟨k + 1, h, by omega, by go_num, rfl, hh2⟩
        case measure => simp [intOf]; omega
    · have hfin := Lib.hid (isH_perm hl.out.1 (hTo_done hl.out.2 hh.out (by rw [hln.out]; omega)))
      go_wp2_with fail
      go_ret
      exact ⟨h, rfl, hfin.out, hb1⟩
end Go.Proofs.YtciehcageghggaaDoor
