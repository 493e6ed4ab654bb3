/- Package graph: the check, and the order of edges. -/
import Derived.Test.YtdibfecejgjfmaaGreatDoorGraB
set_option linter.unusedVariables false
namespace Go.Proofs.YtdibfecejgjfmaaGreatDoor
open Go.RowKit

def cmpI (a b : Int) : Int := if a < b then -1 else if b < a then 1 else 0
def orI (x y : Int) : Int := if x = 0 then y else x
def ordE (a b : Int × Int) : Int := orI (cmpI a.1 b.1) (cmpI a.2 b.2)
theorem cmpI_lt {a b : Int} (h : a < b) : cmpI a b = -1 := if_pos h
theorem cmpI_gt {a b : Int} (h : b < a) : cmpI a b = 1 := by unfold cmpI; rw [if_neg (by omega), if_pos h]
theorem cmpI_eq {a b : Int} (h : a = b) : cmpI a b = 0 := by unfold cmpI; rw [if_neg (by omega), if_neg (by omega)]
theorem ord_lt (a b : Int × Int) : (ordE a b < 0 → ltE a b) ∧ (ltE a b → ordE a b < 0) := by
  unfold ordE orI ltE
  rcases Int.lt_trichotomy a.1 b.1 with h | h | h
  · rw [cmpI_lt h, if_neg (by omega)]
    exact ⟨fun _ => .inl h, fun _ => by omega⟩
  · rw [cmpI_eq h, if_pos rfl]
    rcases Int.lt_trichotomy a.2 b.2 with h2 | h2 | h2
    · rw [cmpI_lt h2]; exact ⟨fun _ => .inr ⟨h, h2⟩, fun _ => by omega⟩
    · rw [cmpI_eq h2]; exact ⟨fun h => by omega, fun h => by omega⟩
    · rw [cmpI_gt h2]; exact ⟨fun h => by omega, fun h => by omega⟩
  · rw [cmpI_gt h, if_neg (by omega)]
    exact ⟨fun h => by omega, fun h => by omega⟩
set_option maxHeartbeats 400000 in
theorem nan_any (a : Int) (w : World) : Calls Tryz.prog 86 #[.int .i64 a] w fun e w' => e = .returned (.bool false) ∧ w = w' := by
  go_enter Tryz.func86, Tryz.ntmps86
  go_wp2
  go_ret
  exact ⟨by simp, rfl⟩
set_option maxHeartbeats 400000 in
theorem compare_any (a b : Int) (w : World) : Calls Tryz.prog 73 #[.int .i64 a, .int .i64 b] w fun e w' => e = .returned (.int .i64 (cmpI a b)) ∧ w = w' := by
  have hw : (a < b ∧ cmpI a b = -1) ∨ (¬ a < b ∧ b < a ∧ cmpI a b = 1) ∨ (¬ a < b ∧ ¬ b < a ∧ cmpI a b = 0) := by
    unfold cmpI
    by_cases h1 : a < b
    · exact .inl ⟨h1, if_pos h1⟩
    · by_cases h2 : b < a
      · exact .inr (.inl ⟨h1, h2, by rw [if_neg h1, if_pos h2]⟩)
      · exact .inr (.inr ⟨h1, h2, by rw [if_neg h1, if_neg h2]⟩)
  rcases hw with ⟨h1, h3⟩ | ⟨h1, h2, h3⟩ | ⟨h1, h2, h3⟩
  all_goals
    replace h3 := Lib.hid h3
    go_enter Tryz.func73, Tryz.ntmps73
    go_wp2_with (go_at_call 86; refine (nan_any _ _).mono ?_; rintro e w' ⟨rfl, rfl⟩)
    go_ret
    exact ⟨retInt h3.out.symm, rfl⟩
set_option maxHeartbeats 1000000 in
theorem or_any (A : Option Addr) (c : Nat) (x y : Int) (w : World) (h : RI w A 2 [x, y]) :
    Calls Tryz.prog 72 #[.slice A 2 c] w fun e w' => e = .returned (.int .i64 (orI x y)) ∧ w = w' := by
  go_enter Tryz.func72, Tryz.ntmps72
  go_wp2
  go_loop [8] (fun i => ∃ k : Nat, k ≤ 2 ∧ i = .int .i64 k ∧ (0 < k → x = 0) ∧ (1 < k → y = 0)) (fun i => 2 - (intOf i).toNat)
  case atStart => exact ⟨0, by omega, rfl, by omega, by omega⟩
  case round =>
    obtain ⟨k, hk, rfl, h1, h2⟩ := hrel
    by_cases hlt : k < 2
    · obtain ⟨ad, z, rfl, hz, hc⟩ := h.get hlt
      have hz' : (k = 0 ∧ z = x) ∨ (k = 1 ∧ z = y) := by
        rcases (show k = 0 ∨ k = 1 by omega) with rfl | rfl
        · have := hz.out; simp at this; exact .inl ⟨rfl, this.symm⟩
        · have := hz.out; simp at this; exact .inr ⟨rfl, this.symm⟩
      by_cases h0 : z = 0
      · have hb : (z != 0) = false := by simpa using h0
        have f1 : 0 < k + 1 → x = 0 := fun _ => by rcases hz' with ⟨r1, r2⟩ | ⟨r1, r2⟩ <;> omega
        have f2 : 1 < k + 1 → y = 0 := fun _ => by rcases hz' with ⟨r1, r2⟩ | ⟨r1, r2⟩ <;> omega
        replace f1 := Lib.hid f1
        replace f2 := Lib.hid f2
        clear hz' h1 h2 h0
        go_wp2
        go_round
        case rel => exact ⟨k + 1, by omega, by go_num, f1.out, f2.out⟩
        case measure => simp [intOf]; omega
      · have hb : (z != 0) = true := by simpa using h0
        have hv : z = orI x y := by
          unfold orI
          rcases hz' with ⟨r1, r2⟩ | ⟨r1, r2⟩
          · rw [if_neg (by rw [← r2]; exact h0), r2]
          · rw [if_pos (h1 (by omega)), r2]
        replace hv := Lib.hid hv
        clear hz' h1 h2 h0
        go_wp2
        go_ret
        exact ⟨retInt hv.out, rfl⟩
    · have hv : orI x y = 0 := by rw [h1 (by omega), h2 (by omega)]; rfl
      replace hv := Lib.hid hv
      clear h1 h2
      go_wp2
      go_ret
      exact ⟨retInt hv.out.symm, rfl⟩
theorem RI.two {w : World} {t : TypeId} (x y : Int) {H : Nat} (hH : H = w.heap.size) : RI (w.alloc (.cells #[.int .i64 x, .int .i64 y] t)) (some ⟨H, 0, none⟩) 2 [x, y] := by
  subst hH
  exact ⟨rfl, fun _ => ⟨_, rfl, by simp, World.news_of_block (cs := #[.int .i64 x, .int .i64 y]) (t := t) (fr := (0, 0)) (heap_alloc_new w _)⟩⟩
set_option maxHeartbeats 2000000 in
theorem order_any (a b c d : Int) (w : World) :
    Calls Tryz.prog 53 #[.agg #[.int .i64 a, .int .i64 b], .agg #[.int .i64 c, .int .i64 d]] w fun e w' => e = .returned (.int .i64 (ordE (a, b) (c, d))) ∧ Below w.heap.size w w' := by
  have k1 := fun w => compare_any a c w
  have k2 := fun w => compare_any b d w
  have hdef : ordE (a, b) (c, d) = orI (cmpI a c) (cmpI b d) := rfl
  generalize cmpI a c = p at *
  generalize cmpI b d = q at *
  replace k1 := Lib.hid k1
  replace k2 := Lib.hid k2
  replace hdef := Lib.hid hdef
  go_enter Tryz.func53, Tryz.ntmps53
  go_wp2
  go_region_held3 (fun w' => w'.cell? ⟨w.heap.size, 0, none⟩ = some (.int .i64 a) ∧ w'.cell? ⟨w.heap.size, 1, none⟩ = some (.int .i64 b) ∧ w'.cell? ⟨w.heap.size + 1, 0, none⟩ = some (.int .i64 c) ∧ w'.cell? ⟨w.heap.size + 1, 1, none⟩ = some (.int .i64 d)) (go_keep)
    ((first | (go_at_call 73; (with_reducible refine (k1.out _).mono ?_); rintro e w' ⟨rfl, rfl⟩) | (go_at_call 73; (with_reducible refine (k2.out _).mono ?_); rintro e w' ⟨rfl, rfl⟩) | (go_at_call 72; refine (or_any _ _ p q _ ?_).mono ?_; exact (RI.two p q (by simp)).drew; rintro e w' ⟨rfl, rfl⟩)))
  all_goals go_wp2
  all_goals go_ret
  all_goals exact ⟨retInt hdef.out.symm, by go_grown⟩

set_option maxRecDepth 100000 in
set_option maxHeartbeats 2000000 in
theorem gcheck_any (A : Option Addr) (m c : Nat) (n : Int) (es : List (Int × Int)) (w : World) (h : RE w A m es) (hm : m ≤ 1099511627776) :
    Calls Tryz.prog 33 #[.agg #[.int .i64 n, .slice A m c]] w fun e w' => e = .returned (.int .i64 (chkG n es)) ∧ Below w.heap.size w w' := by
  by_cases hn : n < 0 ∨ 64 < n
  · have hv : chkG n es = 1 := by rw [chkG, if_pos hn]
    replace hv := Lib.hid hv
    rcases hn with hn | hn
    all_goals
      go_enter Tryz.func33, Tryz.ntmps33
      go_wp2
      go_ret
      exact ⟨retInt hv.out.symm, by go_grown⟩
  · have hv : chkG n es = chkE n none es := by rw [chkG, if_neg hn]
    replace hv := Lib.hid hv
    have hn0 : 0 ≤ n := by omega
    have hn1 : n ≤ 64 := by omega
    clear hn
    have hml := Lib.hid h.len
    go_enter Tryz.func33, Tryz.ntmps33
    go_wp2
    go_loopw [16] (fun i wr => ∃ k : Nat, k ≤ m ∧ i = .int .i64 k ∧ Hid (chkE n none es = chkE n (prevE es k) (es.drop k)) ∧ Blk wr w.heap.size 24 #[.int .i64 n, .slice A m c] ∧ Below w.heap.size w wr) (fun i _ => m - (intOf i).toNat)
    case atStart => exact ⟨0, Nat.zero_le _, rfl, Lib.hid rfl, Blk.new _ _ _, by go_grown⟩
    case round =>
      obtain ⟨k, hk, rfl, hx, hB, hb⟩ := hrel
      have hg0 := Blk.cell hB 0
      have hg1 := Blk.cell hB 1
      simp at hg0 hg1
      have hlt0 := Blk.lt hB
      by_cases hlt : k < m
      · obtain ⟨ad, u, v, rfl, hbl, hy, hc1, hc2⟩ := (RE.below h hb (Nat.le_refl _)).get hlt
        by_cases hbad : u < 0 ∨ v ≤ u ∨ n ≤ v
        · have hf := Lib.hid (hv.out.trans (chk_out hx.out hy.out hbad))
          have hb' := hb
          have hw : decide (u < 0) = true ∨ (decide (u < 0) = false ∧ decide (v ≤ u) = true) ∨ (decide (u < 0) = false ∧ decide (v ≤ u) = false ∧ decide (n ≤ v) = true) := by simp; omega
          clear hbad
          rcases hw with q1 | ⟨q1, q2⟩ | ⟨q1, q2, q3⟩
          all_goals
            go_wp2
            go_ret
            exact ⟨retInt hf.out.symm, by go_grown⟩
        · have q1 : decide (u < 0) = false := by simp; omega
          have q2 : decide (v ≤ u) = false := by simp; omega
          have q3 : decide (n ≤ v) = false := by simp; omega
          by_cases hk0 : 0 < k
          · obtain ⟨ad', u', v', had, _, hy', hc1', hc2'⟩ := (RE.below h hb (Nat.le_refl _)).get (show k - 1 < m by omega)
            obtain rfl : ad = ad' := by injection had
            clear had
            have hh : Hid ((ordE (u', v') (u, v) < 0 → chkE n none es = chkE n (prevE es (k + 1)) (es.drop (k + 1))) ∧ (0 ≤ ordE (u', v') (u, v) → chkE n none es = 5)) := by
              have ho := ord_lt (u', v') (u, v)
              refine Lib.hid ⟨fun hl => chk_step hx.out hy.out hbad fun _ a b hab => ?_, fun hl => chk_down hx.out hy.out hbad hk0 hy'.out (fun h => by have := ho.2 h; omega)⟩
              rw [hy'.out] at hab
              simp at hab
              obtain ⟨rfl, rfl⟩ := hab
              exact ho.1 hl
            clear hbad
            have bf := fun w => order_any u' v' u v w
            generalize ordE (u', v') (u, v) = O at *
            replace bf := Lib.hid bf
            have i0 : (0 : Int) ≤ (k : Int) - 1 := by omega
            have i1 : (k : Int) - 1 < (m : Int) := by omega
            have i2 : ((k : Int) - 1).toNat = k - 1 := by omega
            have i3 : IntKind.i64.wrap ((k : Int) - 1) = (k : Int) - 1 := IntWalk.i64_in _ ⟨by omega, by omega⟩
            have i4 : decide ((0 : Int) < (k : Int)) = true := by simp; omega
            have i5 : (1 : Int) ≤ (k : Int) := by omega
            have i6 : (k : Int) ≤ (m : Int) := by omega
            have i7 : k - 1 < m := by omega
            have hz := hb.size
            go_wp2
            obtain ⟨W, hW⟩ : ∃ W, W = wr.alloc (.cells #[.int .i64 u, .int .i64 v] 53) := ⟨_, rfl⟩
            have hN : Blk W wr.heap.size 53 #[.int .i64 u, .int .i64 v] := by rw [hW]; exact Blk.new _ _ _
            have hB2 : Blk W w.heap.size 24 #[.int .i64 n, .slice (some ad) m c] := by rw [hW]; exact Blk.alloc hB _
            have hb2 : Below w.heap.size w W := by rw [hW]; exact hb.alloc hz _
            have ZZ : wr.heap.size + 1 ≤ W.heap.size := by rw [hW]; simp
            have hp1 : W.cell? (ad.add ((k - 1) * 2)) = some (.int .i64 u') := by rw [hW, World.cell?_alloc_lt _ _ _ (by rw [block_of_add]; exact hbl)]; exact hc1'
            have hp2 : W.cell? ⟨(ad.add ((k - 1) * 2)).block, (ad.add ((k - 1) * 2)).off + 1, none⟩ = some (.int .i64 v') := by rw [hW, World.cell?_alloc_lt _ _ _ (by show (ad.add ((k - 1) * 2)).block < _; rw [block_of_add]; exact hbl)]; exact hc2'
            rw [← hW]
            clear hW hg0 hg1 hc1 hc2 hc1' hc2' hB hb
            have hg1 := Blk.cell hB2 1
            have hn0' := Blk.cell hN 0
            have hn1' := Blk.cell hN 1
            simp at hg1 hn0' hn1'
            have hlw : w.heap.size < wr.heap.size + 1 := by omega
            have hla : (ad.add ((k - 1) * 2)).block < wr.heap.size + 1 := by rw [block_of_add]; omega
            have BV : Below w.heap.size w W := hb2
            have BN : Below (wr.heap.size + 1) W W := Below.refl _ _
            go_region_held3 (fun w' => w'.cell? ⟨w.heap.size, 1, none⟩ = some (.slice (some ad) m c) ∧ w'.cell? (ad.add ((k - 1) * 2)) = some (.int .i64 u') ∧ w'.cell? ⟨(ad.add ((k - 1) * 2)).block, (ad.add ((k - 1) * 2)).off + 1, none⟩ = some (.int .i64 v') ∧ w'.cell? ⟨wr.heap.size, 0, none⟩ = some (.int .i64 u) ∧ w'.cell? ⟨wr.heap.size, 1, none⟩ = some (.int .i64 v))
              ((first | (go_split_ands; refine ⟨?_, ?_, ?_, ?_, ?_⟩ <;> (rw [hb9.cell (by first | (simp; omega) | (rw [block_of_add] at hla; simp [block_of_add]; omega))]; assumption)) | ((repeat' apply And.intro) <;> (go_keep; done))))
              ((go_at_call 53; (with_reducible refine (bf.out _).mono ?_); rintro e w9 ⟨rfl, hb9⟩; replace BV : Below w.heap.size w w9 := (by first | exact below_call BV hb9 | exact below_call BV.drew hb9); replace BN : Below (wr.heap.size + 1) W w9 := (by first | exact BN.trans (hb9.mono ZZ) | exact BN.drew.trans (hb9.mono ZZ))))
            replace hB2 := Blk.below hB2 BN (by omega)
            clear hb9 hp1 hp2 hg1 hn0' hn1' BN hN
            by_cases hO : O < 0
            · have hO' : decide (0 ≤ O) = false := by simp; omega
              have hf := Lib.hid (hh.out.1 hO)
              clear hh bf
              go_wp2
              go_roundw
              case rel => exact ⟨k + 1, by omega, by go_num, hf, hB2, BV⟩
              case measure => simp [intOf]; omega
            · have hO' : decide (0 ≤ O) = true := by simp; omega
              have hf := Lib.hid (hv.out.trans (hh.out.2 (by omega)))
              clear hh bf
              go_wp2
              go_ret
              exact ⟨retInt hf.out.symm, BV⟩
          · have hst := Lib.hid (chk_step hx.out hy.out hbad (fun h0 => absurd h0 hk0))
            clear hbad
            have i4 : decide ((0 : Int) < (k : Int)) = false := by simp; omega
            go_wp2
            go_quiet (fail)
            go_wp2
            go_roundw
            case rel => exact ⟨k + 1, by omega, by go_num, hst, (Blk.alloc hB _).drewN _, below_drewN (hb.alloc hb.size _) _⟩
            case measure => simp [intOf]; omega
      · have hf : chkG n es = 0 := by
          rw [hv.out, hx.out, List.drop_of_length_le (by rw [hml.out]; omega)]; rfl
        replace hf := Lib.hid hf
        go_wp2
        go_ret
        exact ⟨retInt hf.out.symm, hb⟩
end Go.Proofs.YtdibfecejgjfmaaGreatDoor
