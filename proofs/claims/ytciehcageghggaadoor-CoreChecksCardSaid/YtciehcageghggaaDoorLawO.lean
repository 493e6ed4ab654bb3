/- The law CoreOrder: its walk. -/
import Derived.Test.YtciehcageghggaaDoorOrdM
set_option linter.unusedVariables false
namespace Go.Proofs.YtciehcageghggaaDoor
open Go.RowKit CoBit

theorem per_ordI {o : List Int} {n : Nat} (h : Per o n) : OrdI o n := ordI_per.2 h
theorem ord_per {xs : List Int} {n : Nat} (h : Ord xs n) : Per xs n := h
theorem blk2 {w : World} {g : Nat} {t : TypeId} {a b : Value} (h : Blk w g t #[a, b]) : w.cell? ⟨g, 0, none⟩ = some a ∧ w.cell? ⟨g, 1, none⟩ = some b := ⟨h.cell 0, h.cell 1⟩

set_option maxRecDepth 100000 in
set_option maxHeartbeats 2000000 in
theorem lawOrder_any (A0 : Option Addr) (m0 c0 : Nat) (l : List Int) (w : World) (hT : Tab w) (h0 : RI w A0 m0 l) (hmc : m0 ≤ c0) (hm0 : m0 ≤ 1152921504606846976) :
    Calls Tryd.prog 5 #[.slice A0 m0 c0] w fun e w' => e = .returned (.bool true) ∧ Below w.heap.size w w' := by
  go_enter Tryd.func5, Tryd.ntmps5
  go_wp2_with fail
  refine (new_any A0 m0 c0 l w h0 hmc hm0).mono ?_
  rintro e w1 ⟨rfl, hd1, hb1, hs1⟩
  go_wp2_with fail
  refine (mkgraph_any _ 9 _ hd1 (by omega)).mono ?_
  rintro e w2 ⟨n, es, A, m, c, rfl, hmcc, hr2, hf2, hsrt, hn9, hd2, hg2⟩
  have hz := Lib.hid (chk_of_srt hsrt (by omega) (by omega))
  have hlen : m ≤ 81 := by
    have h1 := srt_len hsrt
    have h2 := hr2.len
    have h3 : n * n ≤ 9 * 9 := Nat.mul_le_mul hn9 hn9
    omega
  have hb2 : Below w.heap.size w w2 := hb1.grown hg2 (by omega) (fun k hk => by injection hk with hk; omega)
  have hs2 := hb2.size
  have hA0 : Hid (∀ ad, A = some ad → some ad.block ≠ some w.heap.size) := Lib.hid fun ad h e => by have := hf2 ad h; injection e with e; omega
  clear hs1 hb1 hf2 hg2 h0
  go_wp2_with fail
  generalize hw3 : w2.alloc (.cells #[.int .i64 n, .slice A m c] 28) = w3
  have hG : Blk w3 w2.heap.size 28 #[.int .i64 n, .slice A m c] := hw3 ▸ Blk.new w2 _ _
  have hr3 : RE w3 A m es := hw3 ▸ hr2.alloc _
  have hd3 : Dk w3 w.heap.size := hw3 ▸ hd2.alloc _
  have hb3 : Below w.heap.size w w3 := hw3 ▸ hb2.alloc hs2 _
  have hT3 := hT.keep hb3
  have hdl := hd2.lt
  clear hw3 hr2 hd2 hb2
  generalize w2.heap.size = gg at *
  have hgl := hG.lt
  refine (cOrder_any A m c n es w3 hT3 hr3 (by omega)).mono ?_
  rintro e w4 ⟨o, ⟨A4, n4, c4, rfl, hn4, hr4, hb4, hf4⟩, ho⟩
  have hO := ho.1 hz.out
  rw [Int.toNat_natCast] at hO
  have hPer : Hid (Per o n) := Lib.hid ⟨hO.2, (ps_range hO.1).1, (ps_range hO.1).2⟩
  rw [hz.out]
  replace hO := Lib.hid hO
  have hn4' : n4 ≤ 9 := by have := hr4.len; have := hO.out.2; omega
  have hG4 := hG.below hb4 hgl
  obtain ⟨k40, k41⟩ := blk2 hG4
  have hr34 := hr3.below hb4 (Nat.le_refl _)
  have hd4 := hd3.below hb4 hd3.lt
  have hbb4 := hb3.trans (hb4.mono hb3.size)
  have hs4 := hb4.size
  clear ho
  go_wp2_with fail
  refine (cLater_any A m c n es A4 n4 c4 o w4 hr34 (by omega) hr4 hn4 (by omega)).mono ?_
  rintro e w5 ⟨ls, ⟨A5, n5, c5, rfl, hn5, hr5, hb5, hf5⟩, hl⟩
  have he : errL n es o = 0 := by unfold errL; rw [hz.out, if_pos rfl, if_pos (per_ordI hPer.out)]
  have hL := hl.1 he
  rw [Int.toNat_natCast] at hL
  rw [he]
  replace hL := Lib.hid hL
  have hG5 := hG4.below hb5 (by omega)
  obtain ⟨k50, k51⟩ := blk2 hG5
  have hr35 := hr34.below hb5 (Nat.le_refl _)
  have hd5 := hd4.below hb5 hd4.lt
  have hbb5 := hbb4.trans (hb5.mono hbb4.size)
  have hs5 := hb5.size
  clear hl he hr4 hr3 hd3 hb3 hT3 hG hb4 hr34 k40 k41 hbb4
  go_wp2_with fail
  have tok1 : True := trivial
  have hne1 : ¬ gg = w.heap.size := by omega
  have hwl : w.heap.size < w5.heap.size := by omega
  go_region_held3 (fun w' => w'.cell? ⟨gg, 0, none⟩ = some (.int .i64 n) ∧ w'.cell? ⟨gg, 1, none⟩ = some (.slice A m c))
    ((first | (go_split_ands; refine ⟨?_, ?_⟩ <;> (rw [kc6]; assumption)) | (go_split_ands; refine ⟨?_, ?_⟩ <;> (rw [kc7]; assumption)) | ((repeat' apply And.intro) <;> (go_keep; done))))
    ((first | (have _t := tok1; go_at_call 15; refine (mkorder_any w.heap.size n _ (hd5.drewN _) (by omega)).mono ?_; rintro e w6 ⟨o2, A6, n6, c6, rfl, hn6, ho6, hr6, hf6, hd6, hg6⟩; clear tok1 _t; have kc6 : ∀ o, w6.cell? ⟨gg, o, none⟩ = w5.cell? ⟨gg, o, none⟩ := fun o => hg6.block_cell ⟨gg, o, none⟩ (by simp; omega) (by simp; omega)) | (go_at_call 18; refine (cLater_any A m c n es A6 n6 c6 o2 _ ((hr35.drewN _).kept hg6 hA0.out) (by omega) hr6 hn6 (by have := hr6.len; have := ho6.1; omega)).mono ?_; rintro e w7 ⟨ls2, ⟨A7, n7, c7, rfl, hn7, hr7, hb7, hf7⟩, hl2⟩; have kc7 : ∀ o, w7.cell? ⟨gg, o, none⟩ = w6.cell? ⟨gg, o, none⟩ := fun o => hb7.cell (p := ⟨gg, o, none⟩) (by have := hg6.size; simp at this ⊢; omega))))
  have he2 : errL n es o2 = 0 := by unfold errL; rw [hz.out, if_pos rfl, if_pos (per_ordI (ord_per ho6))]
  have hL2 := hl2.1 he2
  rw [Int.toNat_natCast] at hL2
  rw [he2]
  have hs6 := hg6.size
  have hs7 := hb7.size
  have hs56 : w5.heap.size ≤ w6.heap.size := hs6
  have hr57 : RI w7 A5 n5 ls := RI.below ((hr5.drewN 1).kept hg6 (fun ad h e => by have := hf5 ad h; injection e with e; omega)) hb7 (Nat.le_refl _)
  have hr37 : RE w7 A m es := RE.below ((hr35.drewN 1).kept hg6 hA0.out) hb7 (Nat.le_refl _)
  have k70 : w7.cell? ⟨gg, 0, none⟩ = some (.int .i64 n) := by rw [kc7, kc6]; exact k50
  have k71 : w7.cell? ⟨gg, 1, none⟩ = some (.slice A m c) := by rw [kc7, kc6]; exact k51
  have hbb7 : Below w.heap.size w w7 := ((below_drewN hbb5 1).trans (grown_is_below (w := w5.drewN 1) hg6 (Nat.le_refl _) (Nat.le_of_lt hwl))).trans (hb7.mono (by omega))
  have hT7 := hT.keep hbb7
  obtain rfl : n = n5 := by rw [← hr5.len, hL.out.1]
  obtain rfl : n = n7 := by rw [← hr7.len, hL2.1]
  have hge := Lib.hid (fun ns (hns : IsNums (nbG n es) n ns) => order_ge (nb := nbG n es) (fun v => nbG_irr v) hns (ord_per ho6) hL2)
  have hge1 := Lib.hid (fun ns (hns : IsNums (nbG n es) n ns) => order_ge (nb := nbG n es) (fun v => nbG_irr v) hns hPer.out hL.out)
  have hle := Lib.hid (fun ns (hns : IsNums (nbG n es) n ns) => order_le hns hO.out.1 hO.out.2 hL.out)
  clear hl2 he2 hg6 hd6 hr6 hb7 hr5 hr35 kc6 kc7 k50 k51 hbb5 hd5 hG5 hL hL2 ho6 hA0 hPer hO hs6 hf5 hf4 hf6 hf7
  go_wp2_with fail
  refine (cDegeneracy_any A m c n es w7 hT7 hr37 (by omega)).mono ?_
  rintro e w8 ⟨ns, rfl, hns, hb8⟩
  have hN := hns.1 hz.out
  rw [Int.toNat_natCast] at hN
  rw [hz.out]
  replace hge := hge.out ns hN
  replace hge1 := hge1.out ns hN
  replace hle := hle.out ns hN
  have hD0 := maxL_nonneg ns
  have hr58 := RI.below hr57 hb8 (Nat.le_refl _)
  have hr78 := RI.below hr7 hb8 (Nat.le_refl _)
  have k80 : w8.cell? ⟨gg, 0, none⟩ = some (.int .i64 n) := by rw [hb8.cell (by simp; omega)]; exact k70
  have hbb8 := hbb7.trans (hb8.mono hbb7.size)
  have hT8 := hT.keep hbb8
  have hls := Lib.hid hr57.len
  have hls2 := Lib.hid hr7.len
  clear hns hN hb8 k70 k71 hr57 hr37 hbb7 hT7 hr7
  generalize maxL ns = D at *
  go_wp2_with fail
  go_loopw [13, 14, 69] (fun a b i wr => ∃ (k : Nat) (x y : Int) (q : Nat), k ≤ n ∧ i = .int .i64 k ∧ a = .int .i64 x ∧ b = .int .i64 y ∧ Hid (x = maxL (ls.take k)) ∧ Hid (y = maxL (ls2.take k)) ∧ Hid (wr = w8.drewN q)) (fun _ _ i _ => n - (intOf i).toNat)
  case atStart => exact ⟨0, 0, 0, 0, Nat.zero_le _, rfl, rfl, rfl, Lib.hid rfl, Lib.hid rfl, Lib.hid rfl⟩
  case round =>
    obtain ⟨k, x, y, q, hk, rfl, rfl, rfl, hx, hy, hw⟩ := hrel
    obtain rfl := hw.out
    by_cases hlt : k < n
    · obtain ⟨ad, y1, rfl, hy1, hc1⟩ := hr58.get hlt
      obtain ⟨ad2, y2, rfl, hy2, hc2⟩ := hr78.get hlt
      have hst := maxL_take hy1.out
      rw [← hx.out] at hst
      have hst2 := maxL_take hy2.out
      rw [← hy.out] at hst2
      replace hst := Lib.hid hst
      replace hst2 := Lib.hid hst2
      clear hw
      go_wp2_with fail
      go_quiet (fail)
      have hmx : (if x < y1 then y1 else x) = max x y1 := by split <;> omega
      have hmy : (if y < y2 then y2 else y) = max y y2 := by split <;> omega
      rw [hmx, hmy, ← hst.out, ← hst2.out]
      clear hmx hmy
      go_wp2_with fail
      go_roundw
      case rel => exact ⟨k + 1, _, _, _, by omega, by go_num, rfl, rfl, Lib.hid rfl, Lib.hid rfl, Lib.hid rfl⟩
      case measure => simp [intOf]; omega
    · have hx' : x = maxL ls := by rw [hx.out, List.take_of_length_le (by rw [hls.out]; omega)]
      have hy' : y = maxL ls2 := by rw [hy.out, List.take_of_length_le (by rw [hls2.out]; omega)]
      have e1 : (x == D) = true := by rw [beq_iff_eq]; omega
      have e2 : D ≤ y := by omega
      have hb9 := below_drewN hbb8 q
      have hT9 := hT.keep hb9
      clear hx hy hx' hy' hw hls hls2 hge hge1 hle
      go_wp2_with fail
      refine (awake_any _ hT9).mono ?_
      rintro e w9 ⟨rfl, hb10⟩
      have hb11 := hb9.trans (hb10.mono hb9.size)
      clear hb10 hb9 hT9
      go_wp2_with fail
      go_ret
      exact ⟨rfl, hb11⟩
end Go.Proofs.YtciehcageghggaaDoor
