/- The law CliquecountWhole: its walk. -/
import Derived.Test.YtknlmgcbdcepnaaDoorLwcD
set_option linter.unusedVariables false
set_option linter.unusedSimpArgs false
namespace Go.Proofs.YtknlmgcbdcepnaaDoor
open Go.RowKit CoBit CoCli

/-- What the law compares. -/
structure WhlF (k a b : Nat) (es : List (Int × Int)) : Prop where
  z : chkG k es = 0
  z' : chkG k (withoutE es (edgeP a b)) = 0
  len : es.length ≤ 81
  en : endsB k a b = true
  fd : 0 ≤ rfnd k es a b
  c1 : cntsL k es 6 = (List.range 6).map fun j => chZ k ((j + 1 : Nat) : Int)
  c2 : cntsL k (withoutE es (edgeP a b)) 6 = (List.range 6).map fun j => chZ k ((j + 1 : Nat) : Int) - chZ ((k : Int) - 2) ((j : Int) - 1)
  e1 : errC k es 6 1 = 0
  e2 : errC k (withoutE es (edgeP a b)) 6 1 = 0
theorem whlF {k a b : Nat} {es : List (Int × Int)} (h : Whl k es) (hk : k ≤ 9) (ha : a < k) (hb : b < k) (hne : a ≠ b) : WhlF k a b es := by
  have hz := whl_chk h (show k ≤ 64 by omega)
  have hz' : chkG k (withoutE es (edgeP a b)) = 0 := chk_of_srt (srt_without h.1 _) (by omega) (by omega)
  refine ⟨hz, hz', ?_, ?_, ?_, ?_, ?_, errC_ok hz (by omega) (by omega), errC_ok hz' (by omega) (by omega)⟩
  · have h1 := srt_len h.1
    have : k * k ≤ 9 * 9 := Nat.mul_le_mul hk hk
    omega
  · unfold endsB; rw [decide_eq_true_iff]; omega
  · rw [rfnd_ok hz]
    refine fndE_mem ?_
    rw [mem_edgeP h.1, h.2, h.2]; omega
  · rw [← whl_cnt' h (by omega)]
    exact cnts_ok (k := 6) hz (by omega) (by omega)
  · rw [← whl_cnt2 h (by omega) ha hb hne]
    exact cnts_ok (k := 6) hz' (by omega) (by omega)
theorem map6 (f : Nat → Int) {s : Nat} {y : Int} (h : ((List.range 6).map f)[s]? = some y) : y = f s := by
  rw [List.getElem?_map] at h
  cases hs : (List.range 6)[s]? with
  | none => rw [hs] at h; cases h
  | some x =>
    rw [hs] at h
    have := List.getElem?_eq_some_iff.1 hs
    obtain ⟨_, e⟩ := this
    rw [List.getElem_range] at e
    subst e
    injection h with h
    exact h.symm
theorem second_node {u v k : Nat} (hk : 2 ≤ k) : (u % k + 1 + v % (k - 1)) % k < k ∧ u % k ≠ (u % k + 1 + v % (k - 1)) % k := by
  refine ⟨Nat.mod_lt _ (by omega), ?_⟩
  have h1 := Nat.mod_lt u (show 0 < k by omega)
  have h2 := Nat.mod_lt v (show 0 < k - 1 by omega)
  generalize u % k = a at *
  generalize v % (k - 1) = b at *
  by_cases h : a + 1 + b < k
  · rw [Nat.mod_eq_of_lt h]; omega
  · have : (a + 1 + b) % k = a + 1 + b - k := by
      rw [Nat.mod_eq_sub_mod (by omega), Nat.mod_eq_of_lt (by omega)]
    rw [this]; omega

theorem chZ_bd (n k : Int) : 0 ≤ chZ n k ∧ chZ n k < 9223372036854775808 := by
  unfold chZ
  split
  · omega
  · have := ch64 (n := n.toNat) (by omega) k.toNat
    omega
set_option maxRecDepth 100000 in
set_option maxHeartbeats 4000000 in
theorem lawWhole_any (n u v : Nat) (hn : n < 256) (hu : u < 256) (hv : v < 256) (w : World) (hT : Tab w) :
    Calls Tryd.prog 3 #[.int .u8 n, .int .u8 u, .int .u8 v] w fun e w' => e = .returned (.bool true) ∧ Below w.heap.size w w' := by
  obtain ⟨k, hk⟩ : ∃ k, k = 2 + n % 8 := ⟨_, rfl⟩
  have hk2 : 2 ≤ k := by omega
  have hk9 : k ≤ 9 := by omega
  have e0 : (2 : Int) + (n : Int) % 8 = (k : Int) := by omega
  obtain ⟨a, ha⟩ : ∃ a, a = u % k := ⟨_, rfl⟩
  obtain ⟨b, hb⟩ : ∃ b, b = (u % k + 1 + v % (k - 1)) % k := ⟨_, rfl⟩
  have hak : a < k := by rw [ha]; exact Nat.mod_lt _ (by omega)
  have hsn := second_node (u := u) (v := v) hk2
  rw [← hb, ← ha] at hsn
  obtain ⟨hbk, hab⟩ := hsn
  have ea : (u : Int) % (k : Int) = (a : Int) := by rw [ha]; simp
  have eb : ((a : Int) + 1 + (v : Int) % ((k : Int) - 1)) % (k : Int) = (b : Int) := by
    rw [hb, ← ha, show (k : Int) - 1 = ((k - 1 : Nat) : Int) by omega]
    simp
  clear ha hb hk
  go_enter Tryd.func3, Tryd.ntmps3
  go_wp2_with fail
  refine (whole25_any k (by omega) w).mono ?_
  rintro e w1 ⟨A, m, c, es, rfl, hmc, hr1, hb1, hf1, hW⟩
  have hF := whlF hW hk9 hak hbk hab
  have hlen := hF.len
  rw [hr1.len] at hlen
  have k1 := fun w hT h => counts_any A m c k 6 es w hT h (by omega)
  rw [hF.c1, hF.e1] at k1
  have k2 := fun w h => rremove_any A m c k es a b w h (by omega) hF.z hF.en hF.fd
  have hml := withoutE_len es (edgeP a b)
  rw [hr1.len] at hml
  have k3 := fun A m c hm w hT h => counts_any A m c k 6 (withoutE es (edgeP a b)) w hT h hm
  rw [hF.c2, hF.e2] at k3
  replace k1 := Lib.hid k1
  replace k2 := Lib.hid k2
  replace k3 := Lib.hid k3
  generalize withoutE es (edgeP a b) = es' at *
  clear hF hW
  have hT1 := hT.keep hb1
  go_wp2_with fail
  have hG := Blk.new w1 24 #[.int .i64 k, .slice A m c]
  have hb2 := hb1.alloc hb1.size (.cells #[.int .i64 k, .slice A m c] 24)
  have hr2 := hr1.alloc (.cells #[.int .i64 k, .slice A m c] 24)
  have hT2 := hT1.alloc (.cells #[.int .i64 k, .slice A m c] 24)
  clear hb1 hr1 hT1 hf1
  generalize w1.alloc (.cells #[.int .i64 k, .slice A m c] 24) = w2 at *
  generalize w1.heap.size = gg at *
  refine (k1.out _ hT2 hr2).mono ?_
  rintro e w3 ⟨A3, n3, c3, rfl, hc3, hr3, hb3, hf3⟩
  have hG3 := hG.below hb3 hG.lt
  have hb03 := hb2.trans (hb3.mono hb2.size)
  have hrg := hr2.below hb3 (Nat.le_refl _)
  have hT3 := hT2.keep hb3
  have d0 := Blk.cell hG3 0
  have d1 := Blk.cell hG3 1
  simp at d0 d1
  obtain rfl : n3 = 6 := by rw [← hr3.len]; simp
  clear hb3 hb2 hr2 hT2 hG
  go_upto_region 4 with fail
  have f1 : IntKind.i64.wrap (u : Int) = (u : Int) := IntWalk.i64_in _ ⟨by omega, by omega⟩
  have f2 : (u : Int).tmod (k : Int) = (a : Int) := by rw [Int.tmod_eq_emod_of_nonneg (by omega)]; exact ea
  have f3 : IntKind.i64.wrap ((a : Int) + 1) = (a : Int) + 1 := IntWalk.i64_in _ ⟨by omega, by omega⟩
  have f4 : IntKind.i64.wrap ((k : Int) - 1) = (k : Int) - 1 := IntWalk.i64_in _ ⟨by omega, by omega⟩
  have f5 : IntKind.i64.wrap (v : Int) = (v : Int) := IntWalk.i64_in _ ⟨by omega, by omega⟩
  have f6 : (v : Int).tmod ((k : Int) - 1) = (v : Int) % ((k : Int) - 1) := Int.tmod_eq_emod_of_nonneg (by omega)
  have f6a := Int.emod_nonneg (v : Int) (show (k : Int) - 1 ≠ 0 by omega)
  have f6b := Int.emod_lt_of_pos (v : Int) (show 0 < (k : Int) - 1 by omega)
  have f7 : IntKind.i64.wrap ((a : Int) + 1 + (v : Int) % ((k : Int) - 1)) = (a : Int) + 1 + (v : Int) % ((k : Int) - 1) := IntWalk.i64_in _ ⟨by omega, by omega⟩
  have f8 : ((a : Int) + 1 + (v : Int) % ((k : Int) - 1)).tmod (k : Int) = (b : Int) := by rw [Int.tmod_eq_emod_of_nonneg (by omega)]; exact eb
  generalize (v : Int) % ((k : Int) - 1) = cc at *
  have f9 : ((k : Int) == 0) = false := by rw [beq_eq_false_iff_ne]; omega
  have f10 : ((k : Int) - 1 == 0) = false := by rw [beq_eq_false_iff_ne]; omega
  have f11 : (k : Int) ≠ 0 := by omega
  have f12 : (k : Int) - 1 ≠ 0 := by omega
  have f13 : ¬ k = 0 := by omega
  have f14 : ¬ (k : Int) - 1 = 0 := by omega
  have hgl := hG3.lt
  have hs3 := hb03.size
  have hnn : ∀ i j : Nat, (⟨w3.heap.size, i, none⟩ : Addr) ≠ ⟨gg, j, none⟩ := fun i j e => by injection e with e; omega
  replace hnn := Lib.hid hnn
  go_cut [11, 12] (fun p e wx => ∃ (gh : Nat) (A4 : Option Addr) (n4 c4 : Nat), p = .pointer (some ⟨gh, 0, none⟩) ∧ e = .int .i64 0 ∧ Blk wx gh 24 #[.int .i64 k, .slice A4 n4 c4] ∧ RE wx A4 n4 es' ∧ RI wx A3 6 ((List.range 6).map fun j => chZ k ((j + 1 : Nat) : Int)) ∧ Below w.heap.size w wx)
  case first =>
    have hnb := Blk.new w3 24 #[.int .i64 0, .slice none 0 0]
    go_region_held3 (fun w' => w'.cell? ⟨gg, 0, none⟩ = some (.int .i64 k) ∧ w'.cell? ⟨gg, 1, none⟩ = some (.slice A m c))
      ((first | (exact ⟨y0, y1⟩) | (exact ⟨(World.cell?_alloc_lt _ _ _ hsz4).trans y0, (World.cell?_alloc_lt _ _ _ hsz4).trans y1⟩) | (exact ⟨(World.cell?_setCell_other _ _ _ _ (hnn.out _ _)).trans ((World.cell?_setCell_other _ _ _ _ (hnn.out _ _)).trans y0), (World.cell?_setCell_other _ _ _ _ (hnn.out _ _)).trans ((World.cell?_setCell_other _ _ _ _ (hnn.out _ _)).trans y1)⟩) | ((repeat' apply And.intro) <;> (go_keep; done))))
      ((go_at_call 11; (with_reducible refine (k2.out _ (by first | exact hrg.drew | exact hrg.drew.alloc _ | exact (hrg.alloc _).drew)).mono ?_); rintro e w4 ⟨A4, n4, c4, rfl, hc4, hr4, hb4, hf4⟩; have hsz4 : gg < w4.heap.size := (by have := hb4.size; simp at this; omega);
        have y0 : w4.cell? ⟨gg, 0, none⟩ = some (.int .i64 k) := (by rw [hb4.cell (by simp; omega)]; first | exact d0 | (refine Eq.trans (World.cell?_alloc_lt _ _ _ (by simp; omega)) ?_; exact d0));
        have y1 : w4.cell? ⟨gg, 1, none⟩ = some (.slice A m c) := (by rw [hb4.cell (by simp; omega)]; first | exact d1 | (refine Eq.trans (World.cell?_alloc_lt _ _ _ (by simp; omega)) ?_; exact d1));
        try (have z0 : w4.cell? ⟨w3.heap.size, 0, none⟩ = some (.int .i64 0) := (hb4.cell (p := ⟨w3.heap.size, 0, none⟩) (Blk.lt hnb)).trans (Blk.cell hnb 0);
             have z1 : w4.cell? ⟨w3.heap.size, 1, none⟩ = some (.slice none 0 0) := (hb4.cell (p := ⟨w3.heap.size, 1, none⟩) (Blk.lt hnb)).trans (Blk.cell hnb 1);
             have z2 : w4.frozen? ⟨w3.heap.size, 0, none⟩ = false := (hb4.frozen (p := ⟨w3.heap.size, 0, none⟩) (Blk.lt hnb)).trans (Blk.frozen hnb 0);
             have z3 : w4.frozen? ⟨w3.heap.size, 1, none⟩ = false := (hb4.frozen (p := ⟨w3.heap.size, 1, none⟩) (Blk.lt hnb)).trans (Blk.frozen hnb 1))))
    · go_wp2_with fail
      go_meet
      have b34 : Below w3.heap.size w3 w4 := (Below.refl _ w3).drew.trans hb4
      exact ⟨w4.heap.size, A4, n4, c4, rfl, rfl, Blk.new _ _ _, hr4.alloc _, (RI.below hr3 b34 (Nat.le_refl _)).alloc _, (hb03.trans (b34.mono hs3)).alloc (Nat.le_trans hs3 b34.size) _⟩
    · go_wp2_with fail
      go_meet
      have b34 : Below w3.heap.size w3 w4 := ((Below.refl _ w3).alloc (Nat.le_refl _) _).drew.trans (hb4.mono (by simp))
      have b35 := (b34.setCell (p := ⟨w3.heap.size, 0, none⟩) (Nat.le_refl _) (.int .i64 (k : Int))).setCell (p := ⟨w3.heap.size, 1, none⟩) (Nat.le_refl _) (.slice A4 n4 c4)
      have hB := Blk.set (Blk.set (hnb.drew.below hb4 hnb.lt) 0 (.int .i64 (k : Int))) 1 (.slice A4 n4 c4)
      have hr5 := RE.kept hr4 (grown_setB (grown_setB (World.grownBy.refl w4 (some w3.heap.size)) 0 (.int .i64 (k : Int))) 1 (.slice A4 n4 c4)) (fun ad h e => by have := hf4 ad h; injection e with e; simp at this; omega)
      exact ⟨w3.heap.size, A4, n4, c4, rfl, rfl, hB, hr5, RI.below hr3 b35 (Nat.le_refl _), hb03.trans (b35.mono hs3)⟩
  case rest =>
    obtain ⟨gh, A4, n4, c4, rfl, rfl, hH4, hr4, hr34, hb4⟩ := hcut
    have hT4 := hT.keep hb4
    have d0 := Blk.cell hH4 0
    have d1 := Blk.cell hH4 1
    simp at d0 d1
    have hm4 : n4 ≤ 68719476736 := by rw [← hr4.len]; omega
    clear hgl hs3 hnn hrg hT3 hr3 hf3 hb03 hG3 k1 k2 ea eb
    go_wp2_with fail
    refine (k3.out A4 n4 c4 hm4 _ hT4 hr4).mono ?_
    rintro e w5 ⟨A5, n5, c5, rfl, hc5, hr5, hb5, hf5⟩
    obtain rfl : n5 = 6 := by rw [← hr5.len]; simp
    have hr35 := RI.below hr34 hb5 (Nat.le_refl _)
    have hb05 := hb4.trans (hb5.mono hb4.size)
    clear hb5 hb4 hr34 hr4 hH4 d0 d1 k3 hT4 hf5
    go_wp2_with fail
    go_loopw [15] (fun i wr => ∃ s : Nat, s ≤ 6 ∧ i = .int .i64 ((s : Int) + 1) ∧ Below w5.heap.size w5 wr) (fun i _ => 7 - (intOf i).toNat)
    case atStart => exact ⟨0, by omega, rfl, Below.refl _ _⟩
    case round =>
      obtain ⟨s, hs, rfl, hb⟩ := hrel
      have hs5 := hb.size
      have hbw := hb05.trans (hb.mono hb05.size)
      by_cases hlt : s < 6
      · obtain ⟨ad3, y3, rfl, hy3, hc3⟩ := (RI.below hr35 hb (Nat.le_refl _)).get hlt
        obtain ⟨ad5, y5, rfl, hy5, hc5⟩ := (RI.below hr5 hb (Nat.le_refl _)).get hlt
        have e3 := map6 _ hy3.out
        have e5 := map6 _ hy5.out

        obtain ⟨T, hT⟩ : ∃ T : Int, T = (s : Int) + 1 := ⟨_, rfl⟩
        have i1 : ((s + 1 : Nat) : Int) = T := by omega
        have i2 : (s : Int) - 1 = T - 2 := by omega
        rw [i1] at e3 e5
        rw [i2] at e5
        subst e3 e5
        have hl3 := World.block_lt_of_cell? _ _ hc3
        have hl5 := World.block_lt_of_cell? _ _ hc5
        have b1 := chZ_bd (k : Int) T
        have b2 := chZ_bd ((k : Int) - 2) (T - 2)
        have f1 : IntKind.i64.wrap (T - 1) = (s : Int) := by rw [show T - 1 = (s : Int) by omega]; exact IntWalk.i64_in _ ⟨by omega, by omega⟩
        have f2 : IntKind.i64.wrap (T - 2) = T - 2 := IntWalk.i64_in _ ⟨by omega, by omega⟩
        have f3 : IntKind.i64.wrap ((k : Int) - 2) = (k : Int) - 2 := IntWalk.i64_in _ ⟨by omega, by omega⟩
        have f4 : IntKind.i64.wrap (chZ (k : Int) T - chZ ((k : Int) - 2) (T - 2)) = chZ (k : Int) T - chZ ((k : Int) - 2) (T - 2) := IntWalk.i64_in _ ⟨by omega, by omega⟩
        have f5 : (0 : Int) ≤ (s : Int) := Int.natCast_nonneg _
        have f6 : (s : Int) < 6 := by omega
        have f7 : T ≤ 6 := by omega
        have f8 : 0 ≤ T := by omega
        have kc := Lib.hid (fun n k w => choose_any n k w)
        have BN : Below wr.heap.size wr wr := Below.refl _ _
        rw [← hT]
        replace hT := Lib.hid hT
        clear b1 b2 hy3 hy5 i1 i2
        go_wp2_with fail
        go_region_held3 (fun w' => w'.cell? (ad3.add s) = some (.int .i64 (chZ (k : Int) T)) ∧ w'.cell? (ad5.add s) = some (.int .i64 (chZ (k : Int) T - chZ ((k : Int) - 2) (T - 2))))
          ((first | (exact ⟨(BN.cell hl3).trans hc3, (BN.cell hl5).trans hc5⟩) | ((repeat' apply And.intro) <;> (go_keep; done))))
          ((go_at_call 12; (with_reducible refine (kc.out _ _ _).mono ?_); rintro e w9 ⟨rfl, hb9⟩; replace BN : Below wr.heap.size wr w9 := (by first | exact below_call BN hb9 | exact below_call BN.drew hb9)))
        have hbn := hb.trans (BN.mono hs5)
        clear BN hb9 hb hbw hc3 hc5
        go_wp2_with fail
        go_roundw
        case rel => exact ⟨s + 1, by omega, by rw [hT.out]; go_num, hbn⟩
        case measure => simp [intOf]; omega
      · obtain rfl : s = 6 := by omega
        have hTw := hT.keep hbw
        have q : decide (((6 : Nat) : Int) + 1 ≤ 6) = false := by decide
        clear hb hr35 hr5
        go_wp2_with fail
        refine (awake25_any _ hTw).mono ?_
        rintro e w9 ⟨rfl, hb9⟩
        have hb09 := hbw.trans (hb9.mono hbw.size)
        go_wp2_with fail
        go_ret
        exact ⟨rfl, hb09⟩
end Go.Proofs.YtknlmgcbdcepnaaDoor
