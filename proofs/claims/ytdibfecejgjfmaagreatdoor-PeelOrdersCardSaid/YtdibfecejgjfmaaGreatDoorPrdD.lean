/- Printed by merge.py from PrdA, PrdB, PrdM, PrdC, PrdD. -/
import Derived.Test.YtdibfecejgjfmaaGreatDoorPrnC
import Derived.Test.YtdibfecejgjfmaaGreatDoorPeeI
import Derived.Test.YtdibfecejgjfmaaGreatDoorSrtM
import Derived.Test.YtdibfecejgjfmaaGreatDoorPeeM
/- Reference 20: rest. -/
set_option linter.unusedVariables false
set_option linter.unusedSimpArgs false
namespace Go.Proofs.YtdibfecejgjfmaaGreatDoor
open Go.RowKit CoBit CoRat Rt
def RetPe (w : World) (o S : List Int) (N D : Int) (e : Ending) (w' : World) : Prop := ∃ A1 n1 c1 A2 n2 c2, e = .returned (.agg #[.slice A1 n1 c1, .slice A2 n2 c2, .int .i64 N, .int .i64 D]) ∧ n1 ≤ c1 ∧ n2 ≤ c2 ∧ RI w' A1 n1 o ∧ RI w' A2 n2 S ∧ Below w.heap.size w w' ∧ (∀ ad, A1 = some ad → w.heap.size ≤ ad.block) ∧ (∀ ad, A2 = some ad → 0 < n2 → w.heap.size ≤ ad.block)
attribute [local irreducible] dnN dnD in
theorem recK_den {n : Nat} {es : List (Int × Int)} {o : List Int} (hn : n ≤ 64) (ho : Per o n) (hes : es.length ≤ 68719476736) (k : Nat) (hk : k < n) : 0 < (recK n es o (k + 1)).2.2 := by
  obtain ⟨b, hb, hr, _, _⟩ := rec_best (es := es) hn ho hes k hk
  rw [hr]
  have hl := lfK_lt hn o b
  have h0 : lfK n o b ≠ 0 := fun e => by
    have h1 := sK_eq hn ho b
    unfold sK at h1
    rw [e, pop_bset, bset_zero] at h1
    have : ([] : List Int).length = 0 := rfl
    omega
  obtain ⟨N, D, _, h2, h3, _⟩ := den_val hl h0 hes
  show 0 < dnD es (lfK n o b)
  rw [h2]; omega
set_option maxRecDepth 100000 in
set_option maxHeartbeats 8000000 in
theorem rrest_any (A : Option Addr) (m c : Nat) (n : Nat) (es : List (Int × Int)) (A2 : Option Addr) (m2 c2 : Nat) (o : List Int) (w : World) (h : RE w A m es) (hm : m ≤ 68719476736) (h2 : RI w A2 m2 o) (hmc : m2 ≤ c2) (hz : chkG n es = 0) (hn : n ≤ 64) (ho : Per o n) :
    Calls Tryz.prog 24 #[.agg #[.int .i64 n, .slice A m c], .slice A2 m2 c2] w (RetPe w o (bset (recK n es o n).1) (recK n es o n).2.1 (fixD (recK n es o n).2.2)) := by
  have hes : es.length ≤ 68719476736 := by rw [h.len]; exact hm
  obtain rfl : n = m2 := by rw [← h2.len]; exact ho.1.symm
  have hgm := Lib.hid hz
  have hper := Lib.hid ho
  clear hz ho
  have b0 : Below w.heap.size w ((w.alloc (.cells #[.int .i64 n, .slice A m c] 24)).alloc (.cells #[.slice none 0 0, .slice none 0 0, .int .i64 0, .int .i64 0] 35)) := ((Below.refl _ w).alloc (Nat.le_refl _) _).alloc (by simp) _
  have G0 := (Blk.new w 24 #[.int .i64 n, .slice A m c]).alloc (.cells #[.slice none 0 0, .slice none 0 0, .int .i64 0, .int .i64 0] 35)
  have R0 : Blk ((w.alloc (.cells #[.int .i64 n, .slice A m c] 24)).alloc (.cells #[.slice none 0 0, .slice none 0 0, .int .i64 0, .int .i64 0] 35)) (w.heap.size + 1) 35 #[.slice none 0 0, .slice none 0 0, .int .i64 0, .int .i64 0] := Blk.new' _ _ _ (by simp)
  have h20 := (h2.alloc (.cells #[.int .i64 n, .slice A m c] 24)).alloc (.cells #[.slice none 0 0, .slice none 0 0, .int .i64 0, .int .i64 0] 35)
  go_enter Tryz.func24, Tryz.ntmps24
  go_upto_region 1 with fail
  generalize hw1 : (w.alloc (.cells #[.int .i64 n, .slice A m c] 24)).alloc (.cells #[.slice none 0 0, .slice none 0 0, .int .i64 0, .int .i64 0] 35) = w1 at *
  clear hw1
  have s1 := R0.lt
  go_upto_region 2 with (at_builtin; refine wpList_catb rfl _ _ rfl rfl rfl OI.nil_ h20 (show [].length + n ≤ 2199023255552 by simp only [List.length_nil]; omega) (Nat.le_refl _) ?_; intro v1 wA hO1 hb1 hg1 _; obtain ⟨Ao, no, co, rfl, hno, hco, -, hro⟩ := hO1.form; have hfo := hO1.fresh hno; replace hno := Lib.hid hno)
  have hB1 : Below w1.heap.size w1 wA := hb1
  have O3 := Blk.new wA 35 #[.slice Ao no co, .slice none 0 0, .int .i64 0, .int .i64 1]
  have G3 := (G0.below hB1 G0.lt).alloc (.cells #[.slice Ao no co, .slice none 0 0, .int .i64 0, .int .i64 1] 35)
  have R3 := (R0.below hB1 R0.lt).alloc (.cells #[.slice Ao no co, .slice none 0 0, .int .i64 0, .int .i64 1] 35)
  have hr3 := hro.alloc (.cells #[.slice Ao no co, .slice none 0 0, .int .i64 0, .int .i64 1] 35)
  have b1 : Below w.heap.size w wA := b0.trans (hB1.mono (by have := b0.size; omega))
  have b3 := b1.alloc b1.size (.cells #[.slice Ao no co, .slice none 0 0, .int .i64 0, .int .i64 1] 35)
  have s3 := O3.lt
  have sA := hB1.size
  have hof : ∀ ad, Ao = some ad → 0 < no → ad.block < wA.heap.size := fun ad e hp => RI.block_lt' hro hp ad e
  clear b1 hO1 hb1 hg1 hro G0 R0 h20 b0 hB1
  generalize wA.alloc (.cells #[.slice Ao no co, .slice none 0 0, .int .i64 0, .int .i64 1] 35) = w3 at *
  generalize wA.heap.size = g5 at *
  have hRstart : Blk w3 g5 35 #[.slice Ao no co, .slice none 0 0, .int .i64 (recK n es o 0).2.1, .int .i64 (fixD (recK n es o 0).2.2)] := O3
  have hSstart : RI w3 none 0 (bset (recK n es o 0).1) := by
    show RI w3 none 0 (bset 0)
    rw [bset_zero]; exact RI.none_
  clear O3
  go_wp2_with fail
  go_loopw [16] (fun i wr => ∃ (k : Nat) (As : Option Addr) (ns cs : Nat), k ≤ n ∧ i = .int .i64 k ∧ ns ≤ cs ∧ Blk wr g5 35 #[.slice Ao no co, .slice As ns cs, .int .i64 (recK n es o k).2.1, .int .i64 (fixD (recK n es o k).2.2)] ∧
    RI wr As ns (bset (recK n es o k).1) ∧ (∀ ad, As = some ad → 0 < ns → ad.block ≠ g5 ∧ ad.block ≠ w.heap.size + 1 ∧ w.heap.size ≤ ad.block) ∧ RI wr Ao no o ∧ Blk wr w.heap.size 24 #[.int .i64 n, .slice A m c] ∧ Blk wr (w.heap.size + 1) 35 #[.slice none 0 0, .slice none 0 0, .int .i64 0, .int .i64 0] ∧ Below w.heap.size w wr) (fun i _ => n - (intOf i).toNat)
  case atStart => exact ⟨0, none, 0, 0, Nat.zero_le _, rfl, Nat.le_refl _, hRstart, hSstart, (fun ad e => by cases e), hr3, G3, R3, b3⟩
  case round =>
    obtain ⟨k, As, ns, cs, hk, rfl, hcs, hB, hS, hSf, hO, hG, hR, hb⟩ := hrel
    clear hRstart hSstart hr3 G3 R3 b3
    have hgB := hB.lt
    by_cases hlt : k < n
    -- B1
    · have i0 : (k : Int) < (n : Int) := by omega
      have i1 : (0 : Int) ≤ (k : Int) := by omega
      have i2 : (k : Int) ≤ (n : Int) := by omega
      have hlk := lfK_lt (n := n) hn o k
      have hx0 : lfK n o k ≠ 0 := fun e => by
        have h1 := sK_eq hn hper.out k
        unfold sK at h1
        rw [e, pop_bset, bset_zero] at h1
        have : ([] : List Int).length = 0 := rfl
        omega
      have hxi : ∀ i, (lfK n o k).testBit i = true → i < n := fun i hi => ((lfK_bit hn hper.out.2.2 k i).1 hi).1
      obtain ⟨hq1, hq2⟩ := den_eq (n := n) (es := es) hlk hx0 hxi
      obtain ⟨N, D, hN, hD, hD0, _, _, _, _⟩ := den_val hlk hx0 hes
      have hoff : recK n es o (k + 1) = offV es (lfK n o k) (recK n es o k) := rfl
      rw [off_eq, hN, hD] at hoff
      have hden : k ≠ 0 → 0 < (recK n es o k).2.2 := fun h => by
        have := recK_den (es := es) hn hper.out hes (k - 1) (by omega)
        rwa [show k - 1 + 1 = k by omega] at this
      have hz0 : k = 0 → recK n es o k = (0, 0, 0) := fun h => by subst h; rfl
      have hrest := bset_rest hn hper.out k
      have hbl := bset_length (lfK n o k)
      have h2r := h2.below hb (Nat.le_refl _)
      have hcut := RI.cut h2r (k := k) (cap := c2) (by omega) hmc
      rw [if_neg (show ¬ c2 = k by omega)] at hcut
      have kds := fun w4 h4 A8 n8 c8 hl h8 => rdensity_any A m c n es A8 n8 c8 (bset (lfK n o k)) w4 h4 hm hgm.out hn hl h8
      rw [hq1, hq2, hN, hD] at kds
      have kof := of_any _ _ (c2 - k) _ wr hcut (by omega)
      rw [← hrest] at kof
      have hE := h.below hb (Nat.le_refl _)
      replace kds := Lib.hid kds
      replace kof := Lib.hid kof
      replace hoff := Lib.hid hoff
      replace hden := Lib.hid hden
      replace hz0 := Lib.hid hz0
      have hLN := Lib.hid (And.intro hN hD)
      clear hq1 hq2 hN hD hrest hcut hxi hx0 hlk
      generalize recK n es o k = RC at *
      generalize lfK n o k = LF at *
      go_wp2_with fail
      refine kof.out.mono ?_
      clear kof
      rintro e w5 ⟨A8, n8, c8, rfl, hc8, hr8, hb8, hf8⟩
      have hB5 := hB.below hb8 hB.lt
      have hS5 := hS.below hb8 (Nat.le_refl _)
      have hO5 := hO.below hb8 (Nat.le_refl _)
      have hG5 := hG.below hb8 hG.lt
      have hR5 := hR.below hb8 hR.lt
      have hE5 := hE.below hb8 (Nat.le_refl _)
      have hb5 := hb.trans (hb8.mono hb.size)
      have hn8 : n8 ≤ 64 := by rw [← hr8.len]; exact hbl
      have s5 := hb8.size
      have shb := hb.size
      have hf8' : ∀ ad, A8 = some ad → ad.block ≠ g5 ∧ ad.block ≠ w.heap.size + 1 ∧ w.heap.size ≤ ad.block := fun ad e => by have := hf8 ad e; omega
      clear shb
      clear hB hS hO hG hR hE hb hb8 hf8 h2r
      obtain ⟨d0, d1⟩ := blkG hG5
      have kd := Lib.hid (kds.out w5 hE5 A8 n8 c8 hr8 (by omega))
      clear kds
      go_wp2_with fail
      refine kd.out.mono ?_
      clear kd d0 d1
      rintro e w6 ⟨rfl, hb6⟩
      have hB6 := hB5.below hb6 hB5.lt
      have hS6 := hS5.below hb6 (Nat.le_refl _)
      have hO6 := hO5.below hb6 (Nat.le_refl _)
      have hG6 := hG5.below hb6 hG5.lt
      have hR6 := hR5.below hb6 hR5.lt
      have hr6 := hr8.below hb6 (Nat.le_refl _)
      have hb06 := hb5.trans (hb6.mono hb5.size)
      have s6 := hb6.size
      clear hB5 hS5 hO5 hG5 hR5 hE5 hb5 hb6 hr8
      go_upto_region 7 with fail
      have hD7 := Blk.new w6 33 #[.int .i64 N, .int .i64 D]
      have hB7 := hB6.alloc (.cells #[.int .i64 N, .int .i64 D] 33)
      have hS7 := hS6.alloc (.cells #[.int .i64 N, .int .i64 D] 33)
      have hO7 := hO6.alloc (.cells #[.int .i64 N, .int .i64 D] 33)
      have hG7 := hG6.alloc (.cells #[.int .i64 N, .int .i64 D] 33)
      have hR7 := hR6.alloc (.cells #[.int .i64 N, .int .i64 D] 33)
      have hr7 := hr6.alloc (.cells #[.int .i64 N, .int .i64 D] 33)
      have hb7 := hb06.alloc hb06.size (.cells #[.int .i64 N, .int .i64 D] 33)
      clear hB6 hS6 hO6 hG6 hR6 hr6 hb06
      generalize hw7 : w6.alloc (.cells #[.int .i64 N, .int .i64 D] 33) = w7 at *
      clear hw7
      generalize hg8 : w6.heap.size = g8 at *
      have hg58 : g5 ≠ g8 := by omega
      clear hg8
      have y0 := Blk.cell hD7 0
      have y1 := Blk.cell hD7 1
      have z2 := Blk.cell hB7 2
      have z3 := Blk.cell hB7 3
      simp at y0 y1 z2 z3
      -- taken or not
      have htake : ∀ wx, Below w7.heap.size w7 wx → Blk (((wx.setCell ⟨g5, 1, none⟩ (.slice A8 n8 c8)).setCell ⟨g5, 2, none⟩ (.int .i64 N)).setCell ⟨g5, 3, none⟩ (.int .i64 D)) g5 35 #[.slice Ao no co, .slice A8 n8 c8, .int .i64 N, .int .i64 D] ∧ RI (((wx.setCell ⟨g5, 1, none⟩ (.slice A8 n8 c8)).setCell ⟨g5, 2, none⟩ (.int .i64 N)).setCell ⟨g5, 3, none⟩ (.int .i64 D)) A8 n8 (bset LF) ∧ RI (((wx.setCell ⟨g5, 1, none⟩ (.slice A8 n8 c8)).setCell ⟨g5, 2, none⟩ (.int .i64 N)).setCell ⟨g5, 3, none⟩ (.int .i64 D)) Ao no o ∧
          Blk (((wx.setCell ⟨g5, 1, none⟩ (.slice A8 n8 c8)).setCell ⟨g5, 2, none⟩ (.int .i64 N)).setCell ⟨g5, 3, none⟩ (.int .i64 D)) w.heap.size 24 #[.int .i64 n, .slice A m c] ∧ Blk (((wx.setCell ⟨g5, 1, none⟩ (.slice A8 n8 c8)).setCell ⟨g5, 2, none⟩ (.int .i64 N)).setCell ⟨g5, 3, none⟩ (.int .i64 D)) (w.heap.size + 1) 35 #[.slice none 0 0, .slice none 0 0, .int .i64 0, .int .i64 0] ∧ Below w.heap.size w (((wx.setCell ⟨g5, 1, none⟩ (.slice A8 n8 c8)).setCell ⟨g5, 2, none⟩ (.int .i64 N)).setCell ⟨g5, 3, none⟩ (.int .i64 D)) := fun wx hx => by
        have hgz := grown_set (grown_set (grown_set (World.grownBy.refl wx (some g5)) 1 (.slice A8 n8 c8)) 2 (.int .i64 N)) 3 (.int .i64 D)
        refine ⟨?_, ?_, ?_, ?_, ?_, ?_⟩
        · have h9 := Blk.set (Blk.set (Blk.set (hB7.below hx hB7.lt) 1 (.slice A8 n8 c8)) 2 (.int .i64 N)) 3 (.int .i64 D)
          simp at h9
          exact h9
        · exact RI.kept (hr7.below hx (Nat.le_refl _)) hgz (fun ad e h => (hf8' ad e).1 (by injection h))
        · exact RI.kept0 (hO7.below hx (Nat.le_refl _)) hgz (fun ad e hp h => by have := hof ad e hp; injection h with h; omega)
        · exact Blk.grown (hG7.below hx hG7.lt) hgz (by intro e; injection e with e; omega)
        · exact Blk.grown (hR7.below hx hR7.lt) hgz (by intro e; injection e with e; omega)
        · have hbx := hb7.trans (hx.mono hb7.size)
          exact hbx.grown hgz hbx.size (fun k hk => by injection hk with hk; omega)
      have hzx : ∀ wx, Below w7.heap.size w7 wx → wx.cell? ⟨g5, 1, none⟩ = some (.slice As ns cs) ∧ wx.cell? ⟨g5, 2, none⟩ = some (.int .i64 RC.2.1) ∧ wx.cell? ⟨g5, 3, none⟩ = some (.int .i64 (fixD RC.2.2)) ∧ wx.frozen? ⟨g5, 1, none⟩ = false ∧ wx.frozen? ⟨g5, 2, none⟩ = false ∧ wx.frozen? ⟨g5, 3, none⟩ = false ∧ wx.cell? ⟨g8, 0, none⟩ = some (.int .i64 N) ∧ wx.cell? ⟨g8, 1, none⟩ = some (.int .i64 D) := fun wx hx => by
        have h1 := hB7.below hx hB7.lt
        have h2 := hD7.below hx hD7.lt
        have a1 := Blk.cell h1 1
        have a2 := Blk.cell h1 2
        have a3 := Blk.cell h1 3
        have a4 := Blk.cell h2 0
        have a5 := Blk.cell h2 1
        simp at a1 a2 a3 a4 a5
        exact ⟨a1, a2, a3, Blk.frozen h1 1, Blk.frozen h1 2, Blk.frozen h1 3, a4, a5⟩
      have hfd : fixD (D : Int) = (D : Int) := by unfold fixD; rw [if_neg (by omega)]
      replace htake := Lib.hid htake
      replace hzx := Lib.hid hzx
      replace hfd := Lib.hid hfd
      by_cases hk0 : k = 0
      · have hrc := hz0.out hk0
        have hnew : Hid (recK n es o (k + 1) = (LF, (N : Int), (D : Int))) := Lib.hid (by rw [hoff.out, hrc]; exact if_pos (.inl rfl))
        obtain ⟨a1, a2, a3, a4, a5, a6, a7, a8⟩ := hzx.out _ (Below.refl _ _)
        obtain ⟨t1, t2, t3, t4, t5, t6⟩ := htake.out _ (Below.refl _ _)
        clear hoff hden hz0 hLN hrc htake hzx hB7 hS7 hO7 hG7 hR7 hr7 hb7 hD7 z2 z3
        have hk2 : ((k : Int) == 0) = true := by subst hk0; rfl
        go_upto_region 8 with fail
        go_region
        go_wp2_with fail
        go_roundw
        case rel => exact ⟨k + 1, A8, n8, c8, by omega, by go_num, hc8, by rw [hnew.out]; show Blk _ g5 _ #[.slice Ao no co, .slice A8 n8 c8, .int .i64 N, .int .i64 (fixD D)]; rw [hfd.out]; exact t1, by rw [hnew.out]; exact t2, fun ad e _ => hf8' ad e, t3, t4, t5, by first | exact t6 | exact t6.drew⟩
        case measure => simp [intOf]; omega
      · have hd2 := hden.out hk0
        have hk2 : ((k : Int) == 0) = false := by rw [beq_eq_false_iff_ne]; omega
        have hfr : fixD RC.2.2 = RC.2.2 := by unfold fixD; rw [if_neg (by omega)]
        have kcm := fun w => rCmp_any (N : Int) (D : Int) RC.2.1 RC.2.2 w
        have hoffd := hoff.out
        obtain ⟨CM, hCM⟩ : ∃ CM, cmpF N D RC.2.1 RC.2.2 = CM := ⟨_, rfl⟩
        rw [hCM] at kcm hoffd
        have hcase : (0 < CM ∧ Hid (recK n es o (k + 1) = (LF, (N : Int), (D : Int)))) ∨ (¬ 0 < CM ∧ Hid (recK n es o (k + 1) = RC)) := by
          by_cases hc : 0 < CM
          · exact .inl ⟨hc, Lib.hid (by rw [hoffd, if_pos (.inr hc)])⟩
          · exact .inr ⟨hc, Lib.hid (by rw [hoffd, if_neg (by rintro (h | h); omega; exact hc h)])⟩
        rw [hfr] at z3
        have hzx2 : ∀ wx, Below w7.heap.size w7 wx → wx.cell? ⟨g5, 1, none⟩ = some (.slice As ns cs) ∧ wx.cell? ⟨g5, 2, none⟩ = some (.int .i64 RC.2.1) ∧ wx.cell? ⟨g5, 3, none⟩ = some (.int .i64 RC.2.2) ∧ wx.frozen? ⟨g5, 1, none⟩ = false ∧ wx.frozen? ⟨g5, 2, none⟩ = false ∧ wx.frozen? ⟨g5, 3, none⟩ = false ∧ wx.cell? ⟨g8, 0, none⟩ = some (.int .i64 N) ∧ wx.cell? ⟨g8, 1, none⟩ = some (.int .i64 D) := fun wx hx => by have := hzx.out wx hx; rw [hfr] at this; exact this
        replace hzx2 := Lib.hid hzx2
        replace kcm := Lib.hid kcm
        clear hoff hoffd hden hz0 hLN hzx hCM hd2
        have hkeep : ∀ wx, Below w7.heap.size w7 wx → Blk wx g5 35 #[.slice Ao no co, .slice As ns cs, .int .i64 RC.2.1, .int .i64 (fixD RC.2.2)] ∧ RI wx As ns (bset RC.1) ∧ RI wx Ao no o ∧ Blk wx w.heap.size 24 #[.int .i64 n, .slice A m c] ∧ Blk wx (w.heap.size + 1) 35 #[.slice none 0 0, .slice none 0 0, .int .i64 0, .int .i64 0] ∧ Below w.heap.size w wx := fun wx hx =>
          ⟨hB7.below hx hB7.lt, hS7.below hx (Nat.le_refl _), hO7.below hx (Nat.le_refl _), hG7.below hx hG7.lt, hR7.below hx hR7.lt, hb7.trans (hx.mono hb7.size)⟩
        replace hkeep := Lib.hid hkeep
        clear hB7 hS7 hO7 hG7 hR7 hr7 hb7 hD7
        replace hfr := Lib.hid hfr
        rcases hcase with ⟨hc, hnew⟩ | ⟨hc, hnew⟩
        · go_upto_region 8 with (first | (go_at_call 47; refine (kcm.out _).mono ?_; rintro e wx ⟨rfl, hbx⟩) | fail)
          obtain ⟨a1, a2, a3, a4, a5, a6, a7, a8⟩ := hzx2.out _ hbx
          obtain ⟨t1, t2, t3, t4, t5, t6⟩ := htake.out _ hbx
          clear htake hkeep hzx2 z2 z3 y0 y1
          go_region
          go_wp2_with fail
          go_roundw
          case rel => exact ⟨k + 1, A8, n8, c8, by omega, by go_num, hc8, by rw [hnew.out]; show Blk _ g5 _ #[.slice Ao no co, .slice A8 n8 c8, .int .i64 N, .int .i64 (fixD D)]; rw [hfd.out]; exact t1, by rw [hnew.out]; exact t2, fun ad e _ => hf8' ad e, t3, t4, t5, by first | exact t6 | exact t6.drew⟩
          case measure => simp [intOf]; omega
        · have qc : decide (0 < CM) = false := decide_eq_false hc
          go_wp2_with (first | (go_at_call 47; refine (kcm.out _).mono ?_; rintro e wx ⟨rfl, hbx⟩) | fail)
          obtain ⟨t1, t2, t3, t4, t5, t6⟩ := hkeep.out _ hbx
          go_roundw
          case rel => exact ⟨k + 1, As, ns, cs, by omega, by go_num, hcs, by rw [hnew.out]; exact t1, by rw [hnew.out]; exact t2, hSf, t3, t4, t5, t6⟩
          case measure => simp [intOf]; omega
    -- E1
    -- B2
    · obtain rfl : k = n := by omega
      have z0 := Blk.cell hB 0
      have z1 := Blk.cell hB 1
      have z2 := Blk.cell hB 2
      have z3 := Blk.cell hB 3
      have y0 := Blk.cell hR 0
      have y1 := Blk.cell hR 1
      have y2 := Blk.cell hR 2
      have y3 := Blk.cell hR 3
      have f0 := Blk.frozen hR 0
      have f1 := Blk.frozen hR 1
      have f2 := Blk.frozen hR 2
      have f3 := Blk.frozen hR 3
      simp at z0 z1 z2 z3 y0 y1 y2 y3
      generalize (recK k es o k).2.1 = rN at *
      generalize fixD (recK k es o k).2.2 = rD at *
      have hzz := Blk.set (Blk.set (Blk.set (Blk.set hR 0 (.slice Ao no co)) 1 (.slice As ns cs)) 2 (.int .i64 rN)) 3 (.int .i64 rD)
      have e0 := Blk.cell hzz 0
      have e1 := Blk.cell hzz 1
      have e2 := Blk.cell hzz 2
      have e3 := Blk.cell hzz 3
      simp at e0 e1 e2 e3
      have hgz := grown_set (grown_set (grown_set (grown_set (World.grownBy.refl wr (some (w.heap.size + 1))) 0 (.slice Ao no co)) 1 (.slice As ns cs)) 2 (.int .i64 rN)) 3 (.int .i64 rD)
      have hrO := RI.kept hO hgz (fun ad e h => by have := hfo ad e; injection h with h; omega)
      have hrS := RI.kept0 hS hgz (fun ad e hp h => (hSf ad e hp).2.1 (by injection h))
      have hbz := hb.grown hgz hb.size (fun k hk => by injection hk with hk; omega)
      have hne : g5 ≠ w.heap.size + 1 := by omega
      have hfo2 : ∀ ad, Ao = some ad → w.heap.size ≤ ad.block := fun ad e => by have := hfo ad e; omega
      have hfs2 : ∀ ad, As = some ad → 0 < ns → w.heap.size ≤ ad.block := fun ad e hp => (hSf ad e hp).2.2
      replace hfo2 := Lib.hid hfo2
      replace hfs2 := Lib.hid hfs2
      clear hzz hgz hB hR hO hS hG hb
      go_wp2_with fail
      refine bodyPost_ret (v := .agg #[.slice Ao no co, .slice As ns cs, .int .i64 rN, .int .i64 rD]) (by simp [results, Tryz.results24, go_sem, e0, e1, e2, e3]) rfl ?_
      exact ⟨Ao, no, co, As, ns, cs, rfl, hco, hcs, hrO, hrS, hbz, hfo2.out, hfs2.out⟩
    -- E2
end Go.Proofs.YtdibfecejgjfmaaGreatDoor

/- Package peel: Split, where there is no error. -/
set_option linter.unusedVariables false
set_option linter.unusedSimpArgs false
namespace Go.Proofs.YtdibfecejgjfmaaGreatDoor
open Go.RowKit CoBit
/-- Where each node stands (the first k are placed). -/
def PlO (n : Nat) (o : List Int) (k : Nat) (pl : List Int) : Prop := pl.length = n ∧ ∀ i v, i < k → o[i]? = some v → pl.getD v.toNat 0 = (i : Int)
theorem plO_step {n : Nat} {o : List Int} {k : Nat} {pl : List Int} {v : Nat} (h : PlO n o k pl) (hv : o[k]? = some (v : Int)) (hvn : v < n) (hnd : o.Nodup) (hr : ∀ x ∈ o, 0 ≤ x ∧ x < n) : PlO n o (k + 1) (pl.set v (k : Int)) := by
  refine ⟨by rw [List.length_set]; exact h.1, fun i u hi hu => ?_⟩
  have hu0 := hr u (List.mem_of_getElem? hu)
  obtain ⟨u, rfl⟩ := Int.eq_ofNat_of_zero_le hu0.1
  rw [Int.toNat_natCast, List.getD_eq_getElem?_getD, List.getElem?_set]
  by_cases he : v = u
  · subst he
    rw [if_pos rfl, if_pos (by rw [h.1]; exact hvn)]
    have : i = k := by
      exact (List.getElem?_inj (List.getElem?_eq_some_iff.1 hu).1 hnd).1 (hu.trans hv.symm)
    rw [this]; rfl
  · rw [if_neg he]
    have hik : i < k := by
      rcases Nat.lt_or_ge i k with hik | hik
      · exact hik
      · have : i = k := by omega
        subst this
        rw [hv] at hu
        injection hu with hu
        omega
    have := h.2 i (u : Int) hik hu
    rwa [Int.toNat_natCast, List.getD_eq_getElem?_getD] at this
def onePl (pl : List Int) (e : Int × Int) : Int := if pl.getD e.1.toNat 0 < pl.getD e.2.toNat 0 then 1 else 0
def splP (pl : List Int) (es : List (Int × Int)) : List Int := es.map (onePl pl)
def RetSp (w : World) (den : Int) (ps : List Int) (err : Int) (e : Ending) (w' : World) : Prop := ∃ A k c, e = .returned (.tuple #[.agg #[.int .i64 den, .slice A k c], .int .i64 err]) ∧ k ≤ c ∧ RI w' A k ps ∧ Below w.heap.size w w'
set_option maxRecDepth 100000 in
set_option maxHeartbeats 8000000 in
theorem psplit_ok (A : Option Addr) (m c : Nat) (n : Nat) (es : List (Int × Int)) (A2 : Option Addr) (m2 c2 : Nat) (o : List Int) (w : World) (h : RE w A m es) (hm : m ≤ 68719476736) (h2 : RI w A2 m2 o) (hz : chkG n es = 0) (hn : n ≤ 64) (ho : Per o n) :
    Calls Tryz.prog 14 #[.agg #[.int .i64 n, .slice A m c], .slice A2 m2 c2] w fun e w' => ∃ pl, PlO n o n pl ∧ RetSp w 1 (splP pl es) 0 e w' := by
  obtain rfl : n = m2 := by rw [← h2.len]; exact ho.1.symm
  have hel := Lib.hid h.len
  have hlt := Lib.hid (chkE_lt (chkG_zero hz).2.2)
  have hper := Lib.hid ho
  have herr : errL n es o = 0 := by unfold errL; rw [if_pos hz, if_pos (ordI_per.2 ho)]
  have k1 := fun w h h2 => asked_any A m c n es A2 n c2 o w h hm h2 (by omega)
  rw [herr] at k1
  replace k1 := Lib.hid k1
  obtain ⟨i0, hz0, hz1, hz2, hz3⟩ := info_parts int_info
  clear hz ho herr
  have b0 : Below w.heap.size w ((w.alloc (.cells #[.int .i64 n, .slice A m c] 24)).alloc (.cells #[.int .i64 0, .slice none 0 0] 44)) := ((Below.refl _ w).alloc (Nat.le_refl _) _).alloc (by simp) _
  have G0 := (Blk.new w 24 #[.int .i64 n, .slice A m c]).alloc (.cells #[.int .i64 0, .slice none 0 0] 44)
  have R0 : Blk ((w.alloc (.cells #[.int .i64 n, .slice A m c] 24)).alloc (.cells #[.int .i64 0, .slice none 0 0] 44)) (w.heap.size + 1) 44 #[.int .i64 0, .slice none 0 0] := Blk.new' _ _ _ (by simp)
  go_enter Tryz.func14, Tryz.ntmps14
  go_wp2_with fail
  refine (k1.out _ ((h.alloc _).alloc _) ((h2.alloc _).alloc _)).mono ?_
  rintro e w1 ⟨rfl, hb1⟩
  have G1 := G0.below hb1 G0.lt
  have R1 := R0.below hb1 R0.lt
  have B1 := b0.trans (hb1.mono (by simp; omega))
  have s1 := R1.lt
  clear k1 b0 G0 R0 hb1
  obtain ⟨d0, d1⟩ := blkG G1
  go_upto_region 6 with (at_make; refine wpList_makeI rfl _ _ rfl rfl rfl (n := n) (by omega) (by omega) (by omega) ?_; intro w2 hA2 hg2)
  have hb2 := grown_none_below hg2 w1.heap.size (Nat.le_refl _)
  have G2 := G1.below hb2 G1.lt
  have R2 := R1.below hb2 R1.lt
  have B2 := B1.trans (hb2.mono B1.size)
  have hpl0 : PlO n o 0 (List.replicate n 0) := ⟨by simp, fun i v hi => by omega⟩
  have hgpl := hA2.lt
  have s1' := B1.size
  clear hg2 hb2 G1 R1 d0 d1
  generalize w1.heap.size = gp at *
  go_loopw [26] (fun i wr => ∃ (k : Nat) (pl : List Int), k ≤ n ∧ i = .int .i64 k ∧ AI wr gp pl ∧ Hid (PlO n o k pl) ∧ Blk wr w.heap.size 24 #[.int .i64 n, .slice A m c] ∧ Blk wr (w.heap.size + 1) 44 #[.int .i64 0, .slice none 0 0] ∧ Below w.heap.size w wr) (fun i _ => n - (intOf i).toNat)
  case atStart => exact ⟨0, _, Nat.zero_le _, rfl, hA2, Lib.hid hpl0, G2, R2, B2⟩
  case round =>
    obtain ⟨k, pl, hk, rfl, hA, hpl, hG, hR, hb⟩ := hrel
    clear hA2 hpl0 G2 R2 B2
    by_cases hlt2 : k < n
    · obtain ⟨ad, v, rfl, hv, hcv⟩ := (h2.below hb (Nat.le_refl _)).get hlt2
      have hv0 := hper.out.2.2 v (List.mem_of_getElem? hv.out)
      obtain ⟨v, rfl⟩ := Int.eq_ofNat_of_zero_le hv0.1
      have hst := Lib.hid (plO_step hpl.out hv.out (by omega) hper.out.2.1 hper.out.2.2)
      have hcp := hA.cell (i := v) (by rw [hpl.out.1]; omega)
      have hfp := hA.frozen v
      have hset := fun y => hA.set v y
      generalize pl.getD v 0 = old at *
      replace hset := Lib.hid hset
      have j0 : (0 : Int) ≤ (v : Int) := Int.natCast_nonneg _
      have j1 : (v : Int) < (n : Int) := by omega
      have j2 : (k : Int) < (n : Int) := by omega
      have hG' := hG.far (p := ⟨gp, v, none⟩) (show w.heap.size ≠ gp by omega) (.int .i64 (k : Int))
      have hR' := hR.far (p := ⟨gp, v, none⟩) (show w.heap.size + 1 ≠ gp by omega) (.int .i64 (k : Int))
      have hb' := hb.setCell (p := ⟨gp, v, none⟩) (by simp; omega) (.int .i64 (k : Int))
      clear hG hR hA
      go_wp2_with fail
      go_roundw
      case rel => exact ⟨k + 1, _, by omega, by go_num, hset.out _, hst, hG', hR', hb'⟩
      case measure => simp [intOf]; omega
    · obtain rfl : k = n := by omega
      have j2 : ¬ (k : Int) < (k : Int) := by omega
      obtain ⟨d0, d1⟩ := blkG hG
      have hgpr := hA.lt
      go_upto_region 11 with fail
      have S3 := Blk.new wr 44 #[.int .i64 1, .slice none 0 0]
      have G3 := hG.alloc (.cells #[.int .i64 1, .slice none 0 0] 44)
      have R3 := hR.alloc (.cells #[.int .i64 1, .slice none 0 0] 44)
      have A3 := hA.alloc (.cells #[.int .i64 1, .slice none 0 0] 44)
      have B3 := hb.alloc hb.size (.cells #[.int .i64 1, .slice none 0 0] 44)
      have s3 := S3.lt
      have sg := hb.size
      clear hG hR hA hb d0 d1
      generalize hw3 : wr.alloc (.cells #[.int .i64 1, .slice none 0 0] 44) = w3 at *
      clear hw3
      generalize wr.heap.size = g10 at *
      obtain ⟨d0, d1⟩ := blkG G3
      go_wp2_with fail
      go_loopw [40] (fun i wr => ∃ (j : Nat) (Ao : Option Addr) (no co : Nat), j ≤ m ∧ i = .int .i64 j ∧ Blk wr g10 44 #[.int .i64 1, .slice Ao no co] ∧ OI wr (g10 + 1) (.slice Ao no co) (splP pl (es.take j)) ∧ AI wr gp pl ∧ Blk wr (w.heap.size + 1) 44 #[.int .i64 0, .slice none 0 0] ∧ Below w.heap.size w wr) (fun i _ => m - (intOf i).toNat)
      case atStart => exact ⟨0, none, 0, 0, Nat.zero_le _, rfl, S3, OI.nil_, A3, R3, B3⟩
      case round =>
        obtain ⟨j, Ao, no, co, hj, rfl, hS, hO, hA, hR, hb⟩ := hrel
        clear S3 A3 R3 B3 G3
        by_cases hjm : j < m
        -- B1
        · have i1 : (j : Int) < (m : Int) := by omega
          obtain ⟨ad, u, v, rfl, hab, he, e0, e1⟩ := (h.below hb (Nat.le_refl _)).get hjm
          have hr := hlt.out _ (List.mem_of_getElem? he.out)
          simp only at hr
          obtain ⟨u, rfl⟩ := Int.eq_ofNat_of_zero_le (show 0 ≤ u by omega)
          obtain ⟨v, rfl⟩ := Int.eq_ofNat_of_zero_le (show 0 ≤ v by omega)
          have hst : Hid (splP pl (es.take (j + 1)) = splP pl (es.take j) ++ [onePl pl ((u : Int), (v : Int))]) := Lib.hid (by
            have ht : es.take (j + 1) = es.take j ++ [((u : Int), (v : Int))] := by
              obtain ⟨hk, hh⟩ := List.getElem?_eq_some_iff.1 he.out
              rw [← hh]
              exact List.take_succ_eq_append_getElem hk
            rw [ht]; unfold splP; rw [List.map_append]; rfl)
          have hone : onePl pl ((u : Int), (v : Int)) = if pl.getD u 0 < pl.getD v 0 then 1 else 0 := rfl
          have hsl : (splP pl (es.take j)).length ≤ 68719476736 := by unfold splP; rw [List.length_map, List.length_take]; omega
          have p0 := hA.cell (i := u) (by rw [hpl.out.1]; omega)
          have p1 := hA.cell (i := v) (by rw [hpl.out.1]; omega)
          have t0 := Blk.cell hS 0
          have t1 := Blk.cell hS 1
          have f1 := Blk.frozen hS 1
          simp at t0 t1
          have j0 : (0 : Int) ≤ (u : Int) := Int.natCast_nonneg _
          have j1 : (u : Int) < (k : Int) := by omega
          have j2 : (0 : Int) ≤ (v : Int) := Int.natCast_nonneg _
          have j3 : (v : Int) < (k : Int) := by omega
          have hgl := hS.lt
          have hgpl2 := hA.lt
          -- behind the box of the edge
          have hbe := (Below.refl wr.heap.size wr).alloc (Nat.le_refl _) (.cells #[.int .i64 u, .int .i64 v] 53)
          have X1 := Blk.new wr 53 #[.int .i64 u, .int .i64 v]
          have S1 := hS.alloc (.cells #[.int .i64 u, .int .i64 v] 53)
          have O1 := hO.alloc (.cells #[.int .i64 u, .int .i64 v] 53)
          have A1 := hA.alloc (.cells #[.int .i64 u, .int .i64 v] 53)
          have R1 := hR.alloc (.cells #[.int .i64 u, .int .i64 v] 53)
          have B1 := hb.alloc hb.size (.cells #[.int .i64 u, .int .i64 v] 53)
          clear hS hO hA hR he hr p0 p1 t0 t1 f1
          go_upto_region 15 with fail
          have sz1 : wr.heap.size < (wr.alloc (.cells #[.int .i64 u, .int .i64 v] 53)).heap.size := by simp
          clear e0 e1
          generalize hwx : wr.alloc (.cells #[.int .i64 u, .int .i64 v] 53) = wx at *
          clear hwx
          generalize wr.heap.size = gX at *
          have p0 := A1.cell (i := u) (by rw [hpl.out.1]; omega)
          have p1 := A1.cell (i := v) (by rw [hpl.out.1]; omega)
          have x0 := Blk.cell X1 0
          have x1 := Blk.cell X1 1
          simp at x0 x1
          have hcase : (decide (pl.getD u 0 < pl.getD v 0) = true ∧ Hid (onePl pl ((u : Int), (v : Int)) = 1)) ∨ (decide (pl.getD u 0 < pl.getD v 0) = false ∧ Hid (onePl pl ((u : Int), (v : Int)) = 0)) := by
            by_cases hlt : pl.getD u 0 < pl.getD v 0
            · exact .inl ⟨decide_eq_true hlt, Lib.hid (by rw [hone, if_pos hlt])⟩
            · exact .inr ⟨decide_eq_false hlt, Lib.hid (by rw [hone, if_neg hlt])⟩
          have a0 : pl.getD u 0 = pl.getD u 0 := rfl
          clear hone a0
          generalize pl.getD u 0 = PU at *
          generalize pl.getD v 0 = PV at *
          have hS2 := fun q => S1.drewN q
          have hO2 := fun q => O1.drewN q
          have hA2 := fun q => A1.drewN q
          have hR2 := fun q => R1.drewN q
          have hB2 := fun q => below_drewN B1 q
          replace hS2 := Lib.hid hS2
          replace hO2 := Lib.hid hO2
          replace hA2 := Lib.hid hA2
          replace hR2 := Lib.hid hR2
          replace hB2 := Lib.hid hB2
          clear S1 O1 A1 R1 B1 X1
          rcases hcase with ⟨q1, q2⟩ | ⟨q1, q2⟩
          all_goals
            go_quiet (fail)
            have hS := hS2.out nq
            have hO := hO2.out nq
            have hA := hA2.out nq
            have hR := hR2.out nq
            have hB := hB2.out nq
            clear p0 p1 x0 x1 hS2 hO2 hA2 hR2 hB2 q1
            go_upto_region 17 with fail
            have szz : wx.heap.size ≤ (wx.drewN nq).heap.size := Nat.le_refl _
            generalize hwz : wx.drewN nq = wz at *
            clear hwz
            have szB : g10 + 1 ≤ wz.heap.size := by omega
            have t0 := Blk.cell hS 0
            have t1 := Blk.cell hS 1
            simp at t0 t1
            go_wp2_with (at_builtin; refine wpList_push rfl _ _ rfl rfl rfl (by first | rfl | simp) hO (by omega) szB ?_; intro v7 wd ho7 hb7 hg7; obtain ⟨A7, n7, c7, rfl, hn7, hc7, -, -⟩ := ho7.form; replace hn7 := Lib.hid hn7; have S7 := hS.below hb7 (Nat.lt_succ_self g10); have t71 := Blk.cell S7 1; have f71 := Blk.frozen S7 1; simp at t71)
            have S8 := Blk.set S7 1 (.slice A7 n7 c7)
            simp at S8
            have O8 := ho7.set 1 (Nat.lt_succ_self g10) (.slice A7 n7 c7)
            have A8 := (hA.below hb7 (by omega)).far (p := ⟨g10, 1, none⟩) (show gp ≠ g10 by omega) (.slice A7 n7 c7)
            have R8 := (hR.below hb7 (by omega)).far (p := ⟨g10, 1, none⟩) (show w.heap.size + 1 ≠ g10 by omega) (.slice A7 n7 c7)
            have B8 := (hB.trans (hb7.mono (by omega))).setCell (p := ⟨g10, 1, none⟩) (by simp; omega) (.slice A7 n7 c7)
            rw [← q2.out, ← hst.out] at O8
            have hfin := Lib.hid (And.intro S8 (And.intro O8 (And.intro A8 (And.intro R8 B8))))
            clear S7 t71 f71 ho7 hb7 hg7 S8 O8 A8 R8 B8 hS hO hA hR hB hst q2
            go_roundw
            case rel => exact ⟨j + 1, A7, n7, c7, by omega, by go_num, hfin.out⟩
            case measure => simp [intOf]; omega
        -- E1
        -- B2
        · obtain rfl : j = m := by omega
          have hall : splP pl (es.take j) = splP pl es := by rw [List.take_of_length_le (by rw [hel.out]; exact Nat.le_refl _)]
          rw [hall] at hO
          have hno := hO.form
          obtain ⟨A9, n9, c9, hv9, hn9, hc9, -, hr9⟩ := hno
          injection hv9 with a1 a2 a3
          subst a1; subst a2; subst a3
          have hfo := hO.fresh hn9
          replace hn9 := Lib.hid hn9
          have t0 := Blk.cell hS 0
          have t1 := Blk.cell hS 1
          have y0 := Blk.cell hR 0
          have y1 := Blk.cell hR 1
          have f0 := Blk.frozen hR 0
          have f1 := Blk.frozen hR 1
          simp at t0 t1 y0 y1
          have hzz := Blk.set (Blk.set hR 0 (.int .i64 1)) 1 (.slice Ao no co)
          have e0 := Blk.cell hzz 0
          have e1 := Blk.cell hzz 1
          simp at e0 e1
          have hgz := grown_set (grown_set (World.grownBy.refl wr (some (w.heap.size + 1))) 0 (.int .i64 1)) 1 (.slice Ao no co)
          have hrz := RI.kept hr9 hgz (fun ad e h => by have := hfo ad e; injection h with h; omega)
          have hbz := hb.grown hgz hb.size (fun k hk => by injection hk with hk; omega)
          have hne : g10 ≠ w.heap.size + 1 := by omega
          clear hzz hgz hr9 hO hA hR hS hb
          go_wp2_with fail
          refine bodyPost_ret (v := .tuple #[.agg #[.int .i64 1, .slice Ao no co], .int .i64 0]) (by simp [results, Tryz.results14, go_sem, e0, e1]) rfl ?_
          exact ⟨pl, hpl.out, Ao, no, co, rfl, hc9, hrz, hbz⟩
        -- E2
end Go.Proofs.YtdibfecejgjfmaaGreatDoor

/- Plain laws of the split that gives each edge to its first end (chapter 20). -/
set_option linter.unusedVariables false
set_option linter.unusedSimpArgs false
namespace Go.Proofs.YtdibfecejgjfmaaGreatDoor
open Go.RowKit CoBit
section
variable {n : Nat} {es : List (Int × Int)} {o pl : List Int}
theorem plO_exists (ho : Per o n) : ∃ pl, PlO n o n pl := by
  have key : ∀ k, k ≤ n → ∃ pl, PlO n o k pl := by
    intro k
    induction k with
    | zero => intro _; exact ⟨List.replicate n 0, by simp, fun i v hi => by omega⟩
    | succ k ih =>
      intro hk
      obtain ⟨pl, hpl⟩ := ih (by omega)
      have hko : k < o.length := by rw [ho.1]; omega
      have hv : o[k]? = some o[k] := List.getElem?_eq_getElem hko
      have h0 := ho.2.2 _ (List.getElem_mem hko)
      obtain ⟨v, hvv⟩ := Int.eq_ofNat_of_zero_le h0.1
      rw [hvv] at hv h0
      exact ⟨_, plO_step hpl hv (by omega) ho.2.1 ho.2.2⟩
  exact key n (Nat.le_refl _)
/-- A node's place. -/
theorem pl_at (ho : Per o n) (hp : PlO n o n pl) {v : Int} (h0 : 0 ≤ v) (hv : v < n) : ∃ i : Nat, i < n ∧ o[i]? = some v ∧ pl.getD v.toNat 0 = (i : Int) := by
  obtain ⟨v, rfl⟩ := Int.eq_ofNat_of_zero_le h0
  obtain ⟨i, hi⟩ := List.mem_iff_getElem?.1 (per_all ho (i := v) (by omega))
  have hin : i < n := by have := (List.getElem?_eq_some_iff.1 hi).1; rw [ho.1] at this; exact this
  exact ⟨i, hin, hi, hp.2 i _ hin hi⟩
theorem pl_drop (ho : Per o n) (hp : PlO n o n pl) {v : Int} (h0 : 0 ≤ v) (hv : v < n) (i : Nat) : v ∈ o.drop i ↔ (i : Int) ≤ pl.getD v.toNat 0 := by
  obtain ⟨k, hk, hko, hpk⟩ := pl_at ho hp h0 hv
  rw [hpk]
  constructor
  · intro hm
    obtain ⟨j, hj⟩ := List.mem_iff_getElem?.1 hm
    rw [List.getElem?_drop] at hj
    have := nodup_at ho.2.1 hj hko
    omega
  · intro hle
    refine List.mem_iff_getElem?.2 ⟨k - i, ?_⟩
    rw [List.getElem?_drop, show i + (k - i) = k by omega]
    exact hko
/-- What an edge adds to a node's load. -/
def ldE (pl : List Int) (e : Int × Int) (v : Int) : Int := (if e.1 = v then onePl pl e else 0) + (if e.2 = v then 1 - onePl pl e else 0)
def ldS (pl : List Int) (es : List (Int × Int)) (v : Int) : Int := (es.map fun e => ldE pl e v).sum
theorem onePl_cases (pl : List Int) (e : Int × Int) : onePl pl e = 0 ∨ onePl pl e = 1 := by unfold onePl; split <;> simp
theorem ld_later (hc : ∀ e ∈ es, 0 ≤ e.1 ∧ e.1 < e.2 ∧ e.2 < n) (ho : Per o n) (hp : PlO n o n pl) {v : Int} {i : Nat} (hv : o[i]? = some v) : ldS pl es v = (cntE es (o.drop (i + 1)) v : Int) := by
  have hin : i < n := by have := (List.getElem?_eq_some_iff.1 hv).1; rw [ho.1] at this; exact this
  have hpv := hp.2 i v hin hv
  induction es with
  | nil => rfl
  | cons e es ih =>
    have h1 := ih (fun e he => hc e (by simp [he]))
    have h2 := hc e (by simp)
    have hs : ldS pl (e :: es) v = ldE pl e v + ldS pl es v := by unfold ldS; rw [List.map_cons, List.sum_cons]
    rw [hs, h1, cntE_cons]
    have key : ldE pl e v = (oneE e (o.drop (i + 1)) v : Int) := by
      unfold ldE oneE onePl
      have m1 := pl_drop ho hp (v := e.1) h2.1 (by omega) (i + 1)
      have m2 := pl_drop ho hp (v := e.2) (by omega) h2.2.2 (i + 1)
      obtain ⟨a, ha, hao, hpa⟩ := pl_at ho hp (v := e.1) h2.1 (by omega)
      obtain ⟨b, hb, hbo, hpb⟩ := pl_at ho hp (v := e.2) (by omega) h2.2.2
      have hab : a ≠ b := fun h => by subst h; rw [hao] at hbo; injection hbo with h; omega
      rw [hpa] at m1 ⊢
      rw [hpb] at m2 ⊢
      by_cases c1 : e.1 = v
      · have c2 : e.2 ≠ v := by omega
        rw [c1, hpv] at hpa
        have hai : a = i := by omega
        simp only [c1, c2, if_true, if_false, true_and, false_and, m2]
        by_cases hlt : (a : Int) < b
        · rw [if_pos hlt, if_pos (by omega)]; rfl
        · rw [if_neg hlt, if_neg (by omega)]; rfl
      · by_cases c2 : e.2 = v
        · rw [c2, hpv] at hpb
          have hbi : b = i := by omega
          simp only [c1, c2, if_true, if_false, true_and, false_and, m1]
          by_cases hlt : (a : Int) < b
          · rw [if_pos hlt, if_neg (by omega)]; rfl
          · rw [if_neg hlt, if_pos (by omega)]; rfl
        · simp [c1, c2]
    rw [key]
    omega
/-- The loads are the numbers of later neighbours. -/
theorem loads_later (hz : chkG n es = 0) (ho : Per o n) (hp : PlO n o n pl) {ls : List Int} (hl : IsLater (nbG n es) n o ls) : (List.range n).map (fun v : Nat => ldS pl es (v : Int)) = ls := by
  refine List.ext_getElem? fun v => ?_
  by_cases hv : v < n
  · obtain ⟨i, hi⟩ := List.mem_iff_getElem?.1 (per_all ho hv)
    have h1 := hl.2 i v hi
    rw [Int.toNat_natCast, List.getD_eq_getElem?_getD] at h1
    rw [List.getElem?_map, List.getElem?_range hv, List.getElem?_eq_getElem (l := ls) (by rw [hl.1]; exact hv)] at *
    simp only [Option.getD_some] at h1
    rw [h1, dg_cnt hz]
    show some (ldS pl es (v : Int)) = some _
    rw [ld_later (chkE_lt (chkG_zero hz).2.2) ho hp hi]
  · rw [List.getElem?_eq_none (by simp; omega), List.getElem?_eq_none (by rw [hl.1]; omega)]
end
end Go.Proofs.YtdibfecejgjfmaaGreatDoor

/- Reference 20: wrong, Split. -/
set_option linter.unusedVariables false
set_option linter.unusedSimpArgs false
namespace Go.Proofs.YtdibfecejgjfmaaGreatDoor
open Go.RowKit CoBit
set_option maxRecDepth 100000 in
set_option maxHeartbeats 8000000 in
theorem rsplit_ok (A : Option Addr) (m c : Nat) (n : Nat) (es : List (Int × Int)) (A2 : Option Addr) (m2 c2 : Nat) (o pl : List Int) (w : World) (h : RE w A m es) (hm : m ≤ 68719476736) (h2 : RI w A2 m2 o) (hz : chkG n es = 0) (hn : n ≤ 64) (ho : Per o n) (hp : PlO n o n pl)
    (k1 : ∀ w, RE w A m es → RI w A2 n o → Calls Tryz.prog 26 #[.agg #[.int .i64 n, .slice A m c], .slice A2 n c2] w fun e w' => e = .returned (.int .i64 0) ∧ Below w.heap.size w w') :
    Calls Tryz.prog 15 #[.agg #[.int .i64 n, .slice A m c], .slice A2 m2 c2] w (RetSp w 1 (splP pl es) 0) := by
  obtain rfl : n = m2 := by rw [← h2.len]; exact ho.1.symm
  have hel := Lib.hid h.len
  have hlt := Lib.hid (chkE_lt (chkG_zero hz).2.2)
  have hper := Lib.hid ho
  have hpl := Lib.hid hp
  replace k1 := Lib.hid k1
  obtain ⟨i0, hz0, hz1, hz2, hz3⟩ := info_parts int_info
  clear hz ho hp
  have b0 : Below w.heap.size w ((w.alloc (.cells #[.int .i64 n, .slice A m c] 24)).alloc (.cells #[.int .i64 0, .slice none 0 0] 44)) := ((Below.refl _ w).alloc (Nat.le_refl _) _).alloc (by simp) _
  have G0 := (Blk.new w 24 #[.int .i64 n, .slice A m c]).alloc (.cells #[.int .i64 0, .slice none 0 0] 44)
  have R0 : Blk ((w.alloc (.cells #[.int .i64 n, .slice A m c] 24)).alloc (.cells #[.int .i64 0, .slice none 0 0] 44)) (w.heap.size + 1) 44 #[.int .i64 0, .slice none 0 0] := Blk.new' _ _ _ (by simp)
  go_enter Tryz.func15, Tryz.ntmps15
  go_wp2_with fail
  refine (k1.out _ ((h.alloc _).alloc _) ((h2.alloc _).alloc _)).mono ?_
  rintro e w1 ⟨rfl, hb1⟩
  have G1 := G0.below hb1 G0.lt
  have R1 := R0.below hb1 R0.lt
  have B1 := b0.trans (hb1.mono (by simp; omega))
  have s1 := R1.lt
  have s1' := B1.size
  clear k1 b0 G0 R0 hb1
  go_upto_region 5 with fail
  have S3 := Blk.new w1 44 #[.int .i64 1, .slice none 0 0]
  have G3 := G1.alloc (.cells #[.int .i64 1, .slice none 0 0] 44)
  have R3 := R1.alloc (.cells #[.int .i64 1, .slice none 0 0] 44)
  have B3 := B1.alloc B1.size (.cells #[.int .i64 1, .slice none 0 0] 44)
  clear G1 R1 B1
  generalize hw3 : w1.alloc (.cells #[.int .i64 1, .slice none 0 0] 44) = w3 at *
  clear hw3
  generalize w1.heap.size = g10 at *
  obtain ⟨d0, d1⟩ := blkG G3
  go_wp2_with fail
  go_loopw [24] (fun i wr => ∃ (j : Nat) (Ao : Option Addr) (no co : Nat), j ≤ m ∧ i = .int .i64 j ∧ Blk wr g10 44 #[.int .i64 1, .slice Ao no co] ∧ OI wr (g10 + 1) (.slice Ao no co) (splP pl (es.take j)) ∧ Blk wr (w.heap.size + 1) 44 #[.int .i64 0, .slice none 0 0] ∧ Below w.heap.size w wr) (fun i _ => m - (intOf i).toNat)
  case atStart => exact ⟨0, none, 0, 0, Nat.zero_le _, rfl, S3, OI.nil_, R3, B3⟩
  case round =>
    obtain ⟨j, Ao, no, co, hj, rfl, hS, hO, hR, hb⟩ := hrel
    clear S3 R3 B3 G3 d0 d1
    by_cases hjm : j < m
    -- B1
    · have i1 : (j : Int) < (m : Int) := by omega
      obtain ⟨ad, u, v, rfl, hab, he, e0, e1⟩ := (h.below hb (Nat.le_refl _)).get hjm
      have hr := hlt.out _ (List.mem_of_getElem? he.out)
      simp only at hr
      obtain ⟨u, rfl⟩ := Int.eq_ofNat_of_zero_le (show 0 ≤ u by omega)
      obtain ⟨v, rfl⟩ := Int.eq_ofNat_of_zero_le (show 0 ≤ v by omega)
      have hst : Hid (splP pl (es.take (j + 1)) = splP pl (es.take j) ++ [onePl pl ((u : Int), (v : Int))]) := Lib.hid (by
        have ht : es.take (j + 1) = es.take j ++ [((u : Int), (v : Int))] := by
          obtain ⟨hk, hh⟩ := List.getElem?_eq_some_iff.1 he.out
          rw [← hh]
          exact List.take_succ_eq_append_getElem hk
        rw [ht]; unfold splP; rw [List.map_append]; rfl)
      obtain ⟨a, ha, hao, hpa⟩ := pl_at hper.out hpl.out (v := (u : Int)) (by omega) (by omega)
      obtain ⟨b, hb', hbo, hpb⟩ := pl_at hper.out hpl.out (v := (v : Int)) (by omega) (by omega)
      rw [Int.toNat_natCast] at hpa hpb
      have hone : onePl pl ((u : Int), (v : Int)) = if (a : Int) < (b : Int) then 1 else 0 := by
        show (if pl.getD u 0 < pl.getD v 0 then (1 : Int) else 0) = _
        rw [hpa, hpb]
      have hao' := Lib.hid hao
      have hbo' := Lib.hid hbo
      have hab2 : a ≠ b := fun h => by subst h; rw [hao] at hbo; injection hbo with h; omega
      have hsl : (splP pl (es.take j)).length ≤ 68719476736 := by unfold splP; rw [List.length_map, List.length_take]; omega
      have hpk := Lib.hid (And.intro hst.out hone)
      clear hao hbo hpa hpb he hst hone
      go_upto_region 9 with fail
      have X1 := Blk.new wr 53 #[.int .i64 u, .int .i64 v]
      have S1 := hS.alloc (.cells #[.int .i64 u, .int .i64 v] 53)
      have O1 := hO.alloc (.cells #[.int .i64 u, .int .i64 v] 53)
      have R1 := hR.alloc (.cells #[.int .i64 u, .int .i64 v] 53)
      have B1 := hb.alloc hb.size (.cells #[.int .i64 u, .int .i64 v] 53)
      have sz0 := hS.lt
      clear hS hO hR hb e0 e1
      generalize hwx : wr.alloc (.cells #[.int .i64 u, .int .i64 v] 53) = wx at *
      clear hwx
      generalize wr.heap.size = gX at *
      have szx := X1.lt
      have x0 := Blk.cell X1 0
      have x1 := Blk.cell X1 1
      simp at x0 x1
      have h2x := h2.below B1 (Nat.le_refl _)
      go_wp2_with fail
      go_loopw [10, 30] (fun p i wr => ∃ (k : Nat), p = .int .i64 0 ∧ i = .int .i64 k ∧ k ≤ a ∧ k ≤ b ∧ wx = wr) (fun _ i _ => n - (intOf i).toNat)
      case atStart => exact ⟨0, rfl, rfl, Nat.zero_le _, Nat.zero_le _, rfl⟩
      case round =>
        obtain ⟨k, rfl, rfl, hka, hkb, rfl⟩ := hrel
        have hkn : k < n := by omega
        obtain ⟨ad2, x, rfl, hx, cx⟩ := h2x.get hkn
        have i2 : (k : Int) < (n : Int) := by omega
        by_cases hxu : x = (u : Int)
        · have hka2 : k = a := nodup_at hper.out.2.1 hx.out (by rw [hxu]; exact hao'.out)
          have hval : Hid (onePl pl ((u : Int), (v : Int)) = 1) := Lib.hid (by rw [hpk.out.2, if_pos (by omega)])
          subst hxu
          clear hx hka2
          have szB : g10 + 1 ≤ wx.heap.size := by omega
          have t0 := Blk.cell S1 0
          have t1 := Blk.cell S1 1
          simp at t0 t1
          go_wp2_with (at_builtin; refine wpList_push rfl _ _ rfl rfl rfl (by first | rfl | simp) O1 (by omega) szB ?_; intro v7 wd ho7 hb7 hg7; obtain ⟨A7, n7, c7, rfl, hn7, hc7, -, -⟩ := ho7.form; replace hn7 := Lib.hid hn7; have S7 := S1.below hb7 (Nat.lt_succ_self g10); have t71 := Blk.cell S7 1; have f71 := Blk.frozen S7 1; simp at t71)
          have S8 := Blk.set S7 1 (.slice A7 n7 c7)
          simp at S8
          have O8 := ho7.set 1 (Nat.lt_succ_self g10) (.slice A7 n7 c7)
          have R8 := (R1.below hb7 (by omega)).far (p := ⟨g10, 1, none⟩) (show w.heap.size + 1 ≠ g10 by omega) (.slice A7 n7 c7)
          have B8 := (B1.trans (hb7.mono (by omega))).setCell (p := ⟨g10, 1, none⟩) (by simp; omega) (.slice A7 n7 c7)
          rw [← hval.out, ← hpk.out.1] at O8
          have hfin := Lib.hid (And.intro S8 (And.intro O8 (And.intro R8 B8)))
          clear S7 t71 f71 ho7 hb7 hg7 S8 O8 R8 B8
          go_roundw
          case rel => exact ⟨j + 1, A7, n7, c7, by omega, by go_num, hfin.out⟩
          case measure => simp [intOf]; omega
        · by_cases hxv : x = (v : Int)
          · have hkb2 : k = b := nodup_at hper.out.2.1 hx.out (by rw [hxv]; exact hbo'.out)
            have hval : Hid (onePl pl ((u : Int), (v : Int)) = 0) := Lib.hid (by rw [hpk.out.2, if_neg (by omega)])
            subst hxv
            have q1 : ((v : Int) == (u : Int)) = false := by rw [beq_eq_false_iff_ne]; exact hxu
            clear hx hkb2
            have szB : g10 + 1 ≤ wx.heap.size := by omega
            have t0 := Blk.cell S1 0
            have t1 := Blk.cell S1 1
            simp at t0 t1
            go_wp2_with (at_builtin; refine wpList_push rfl _ _ rfl rfl rfl (by first | rfl | simp) O1 (by omega) szB ?_; intro v7 wd ho7 hb7 hg7; obtain ⟨A7, n7, c7, rfl, hn7, hc7, -, -⟩ := ho7.form; replace hn7 := Lib.hid hn7; have S7 := S1.below hb7 (Nat.lt_succ_self g10); have t71 := Blk.cell S7 1; have f71 := Blk.frozen S7 1; simp at t71)
            have S8 := Blk.set S7 1 (.slice A7 n7 c7)
            simp at S8
            have O8 := ho7.set 1 (Nat.lt_succ_self g10) (.slice A7 n7 c7)
            have R8 := (R1.below hb7 (by omega)).far (p := ⟨g10, 1, none⟩) (show w.heap.size + 1 ≠ g10 by omega) (.slice A7 n7 c7)
            have B8 := (B1.trans (hb7.mono (by omega))).setCell (p := ⟨g10, 1, none⟩) (by simp; omega) (.slice A7 n7 c7)
            rw [← hval.out, ← hpk.out.1] at O8
            have hfin := Lib.hid (And.intro S8 (And.intro O8 (And.intro R8 B8)))
            clear S7 t71 f71 ho7 hb7 hg7 S8 O8 R8 B8
            go_roundw
            case rel => exact ⟨j + 1, A7, n7, c7, by omega, by go_num, hfin.out⟩
            case measure => simp [intOf]; omega
          · have hka2 : k ≠ a := fun h => by
              subst h
              have h1 := hx.out
              rw [hao'.out] at h1
              injection h1 with h1
              exact hxu h1.symm
            have hkb2 : k ≠ b := fun h => by
              subst h
              have h1 := hx.out
              rw [hbo'.out] at h1
              injection h1 with h1
              exact hxv h1.symm
            have q1 : (x == (u : Int)) = false := by rw [beq_eq_false_iff_ne]; exact hxu
            have q2 : (x == (v : Int)) = false := by rw [beq_eq_false_iff_ne]; exact hxv
            clear hx
            go_wp2_with fail
            go_roundw
            case rel => exact ⟨k + 1, rfl, by go_num, by omega, by omega, by first | rfl | trivial⟩
            case measure => simp [intOf]; omega
    -- E1
    -- B2
    · obtain rfl : j = m := by omega
      have hall : splP pl (es.take j) = splP pl es := by rw [List.take_of_length_le (by rw [hel.out]; exact Nat.le_refl _)]
      rw [hall] at hO
      have hno := hO.form
      obtain ⟨A9, n9, c9, hv9, hn9, hc9, -, hr9⟩ := hno
      injection hv9 with a1 a2 a3
      subst a1; subst a2; subst a3
      have hfo := hO.fresh hn9
      replace hn9 := Lib.hid hn9
      have t0 := Blk.cell hS 0
      have t1 := Blk.cell hS 1
      have y0 := Blk.cell hR 0
      have y1 := Blk.cell hR 1
      have f0 := Blk.frozen hR 0
      have f1 := Blk.frozen hR 1
      simp at t0 t1 y0 y1
      have hzz := Blk.set (Blk.set hR 0 (.int .i64 1)) 1 (.slice Ao no co)
      have e0 := Blk.cell hzz 0
      have e1 := Blk.cell hzz 1
      simp at e0 e1
      have hgz := grown_set (grown_set (World.grownBy.refl wr (some (w.heap.size + 1))) 0 (.int .i64 1)) 1 (.slice Ao no co)
      have hrz := RI.kept hr9 hgz (fun ad e h => by have := hfo ad e; injection h with h; omega)
      have hbz := hb.grown hgz hb.size (fun k hk => by injection hk with hk; omega)
      have hne : g10 ≠ w.heap.size + 1 := by omega
      clear hzz hgz hr9 hO hR hS hb
      go_wp2_with fail
      refine bodyPost_ret (v := .tuple #[.agg #[.int .i64 1, .slice Ao no co], .int .i64 0]) (by simp [results, Tryz.results15, go_sem, e0, e1]) rfl ?_
      exact ⟨Ao, no, co, rfl, hc9, hrz, hbz⟩
    -- E2
end Go.Proofs.YtdibfecejgjfmaaGreatDoor

/- Greedy, Rest, Split, of the package and of the reference, with and without an error. (Printed by genPrdD.py.) -/
set_option linter.unusedVariables false
set_option linter.unusedSimpArgs false
namespace Go.Proofs.YtdibfecejgjfmaaGreatDoor
open Go.RowKit CoBit CoRat Rt
set_option maxHeartbeats 1000000 in
theorem rwrong_any (A : Option Addr) (m c : Nat) (n : Int) (es : List (Int × Int)) (A2 : Option Addr) (m2 c2 : Nat) (o : List Int) (w : World) (h : RE w A m es) (hm : m ≤ 68719476736) (h2 : RI w A2 m2 o) (hm2 : m2 ≤ 1099511627776) :
    Calls Tryz.prog 26 #[.agg #[.int .i64 n, .slice A m c], .slice A2 m2 c2] w fun e w' => e = .returned (.int .i64 (errL n es o)) ∧ Below w.heap.size w w' := by
  have ck := fun w h => rcheck_any A m c n es w h (by omega)
  have hb0 : Below w.heap.size w (w.alloc (.cells #[.int .i64 n, .slice A m c] 24)) := (Below.refl _ w).alloc (Nat.le_refl _) _
  have G0 := Blk.new w 24 #[.int .i64 n, .slice A m c]
  by_cases hz : chkG n es = 0
  · obtain ⟨z0, z1, _⟩ := chkG_zero hz
    obtain ⟨n, rfl⟩ := Int.eq_ofNat_of_zero_le z0
    have herr : errL n es o = if OrdI o n then 0 else 4 := by unfold errL; rw [if_pos hz]
    rw [herr]
    rw [hz] at ck
    have ka := fun w h => rAll_any A2 m2 c2 o n w h hm2
    replace ck := Lib.hid ck
    clear hz herr
    by_cases ho : OrdI o n
    · rw [if_pos ho]
      rw [decide_eq_true ho] at ka
      replace ka := Lib.hid ka
      go_enter Tryz.func26, Tryz.ntmps26
      go_wp2_with fail
      refine (ck.out _ (h.alloc _)).mono ?_
      rintro e w1 ⟨rfl, hb1⟩
      have G1 := G0.below hb1 (by simp)
      have B1 := hb0.trans (hb1.mono (by simp))
      obtain ⟨d0, d1⟩ := blkG G1
      go_wp2_with (first | (go_at_call 49; refine (ka.out _ (h2.below B1 (Nat.le_refl _))).mono ?_; rintro e w2 ⟨rfl, hb2⟩) | fail)
      go_ret
      exact ⟨rfl, B1.trans (hb2.mono B1.size)⟩
    · rw [if_neg ho]
      rw [decide_eq_false ho] at ka
      replace ka := Lib.hid ka
      go_enter Tryz.func26, Tryz.ntmps26
      go_wp2_with fail
      refine (ck.out _ (h.alloc _)).mono ?_
      rintro e w1 ⟨rfl, hb1⟩
      have G1 := G0.below hb1 (by simp)
      have B1 := hb0.trans (hb1.mono (by simp))
      obtain ⟨d0, d1⟩ := blkG G1
      go_wp2_with (first | (go_at_call 49; refine (ka.out _ (h2.below B1 (Nat.le_refl _))).mono ?_; rintro e w2 ⟨rfl, hb2⟩) | fail)
      go_ret
      exact ⟨rfl, B1.trans (hb2.mono B1.size)⟩
  · have herr : errL n es o = chkG n es := by unfold errL; rw [if_neg hz]
    rw [herr]
    generalize chkG n es = q at *
    have hb : (q != 0) = true := by rw [bne_iff_ne]; exact hz
    replace ck := Lib.hid ck
    clear herr
    go_enter Tryz.func26, Tryz.ntmps26
    go_wp2_with (first | (go_at_call 19; refine (ck.out _ (h.alloc _)).mono ?_; rintro e w1 ⟨rfl, hb1⟩) | fail)
    go_ret
    exact ⟨rfl, hb0.trans (hb1.mono (by simp))⟩
/-- A peeling and an error are returned. -/
def RetPx (w : World) (o S : List Int) (N D err : Int) (e : Ending) (w' : World) : Prop := ∃ A1 n1 c1 A2 n2 c2, e = .returned (.tuple #[.agg #[.slice A1 n1 c1, .slice A2 n2 c2, .int .i64 N, .int .i64 D], .int .i64 err]) ∧ n1 ≤ c1 ∧ n2 ≤ c2 ∧ RI w' A1 n1 o ∧ RI w' A2 n2 S ∧ Below w.heap.size w w'
/-- What Rest (and Greedy) return. -/
def pxO (err : Int) (o : List Int) : List Int := if err = 0 then o else []
def pxS (err n : Int) (es : List (Int × Int)) (o : List Int) : List Int := if err = 0 then bset (recK n.toNat es o n.toNat).1 else []
def pxN (err n : Int) (es : List (Int × Int)) (o : List Int) : Int := if err = 0 then (recK n.toNat es o n.toNat).2.1 else 0
def pxD (err n : Int) (es : List (Int × Int)) (o : List Int) : Int := if err = 0 then fixD (recK n.toNat es o n.toNat).2.2 else 0
theorem px_err {w w' : World} {err n : Int} {es : List (Int × Int)} {o : List Int} (he : err ≠ 0) (hb : Below w.heap.size w w') : RetPx w (pxO err o) (pxS err n es o) (pxN err n es o) (pxD err n es o) err (.returned (.tuple #[.agg #[.slice none 0 0, .slice none 0 0, .int .i64 0, .int .i64 0], .int .i64 err])) w' := by
  unfold pxO pxS pxN pxD
  rw [if_neg he, if_neg he, if_neg he, if_neg he]
  exact ⟨none, 0, 0, none, 0, 0, rfl, Nat.le_refl _, Nat.le_refl _, RI.none_, RI.none_, hb⟩
theorem errL_ok {n : Nat} {es : List (Int × Int)} {o : List Int} (h : errL n es o = 0) : chkG n es = 0 ∧ Per o n := by
  unfold errL at h
  by_cases hz : chkG n es = 0
  · rw [if_pos hz] at h
    by_cases ho : OrdI o n
    · exact ⟨hz, ordI_per.1 ho⟩
    · rw [if_neg (by simpa using ho)] at h; cases h
  · rw [if_neg hz] at h; exact absurd h hz
theorem errL_chk {n : Int} {es : List (Int × Int)} {o : List Int} (h : errL n es o = 0) : chkG n es = 0 := by
  unfold errL at h
  by_cases hz : chkG n es = 0
  · exact hz
  · rw [if_neg hz] at h; exact absurd h hz
set_option maxRecDepth 100000 in
set_option maxHeartbeats 2000000 in
theorem prest_all (A : Option Addr) (m c : Nat) (n : Int) (es : List (Int × Int)) (A2 : Option Addr) (m2 c2 : Nat) (o : List Int) (w : World) (hT : Tab w) (h : RE w A m es) (hm : m ≤ 68719476736) (h2 : RI w A2 m2 o) (hmc : m2 ≤ c2) (hm2 : m2 ≤ 1099511627776) :
    Calls Tryz.prog 12 #[.agg #[.int .i64 n, .slice A m c], .slice A2 m2 c2] w (RetPx w (pxO (errL n es o) o) (pxS (errL n es o) n es o) (pxN (errL n es o) n es o) (pxD (errL n es o) n es o) (errL n es o)) := by
  by_cases hz : errL n es o = 0
  · obtain ⟨z0, z1, _⟩ := chkG_zero (errL_chk hz)
    obtain ⟨n, rfl⟩ := Int.eq_ofNat_of_zero_le z0
    obtain ⟨hg, ho⟩ := errL_ok hz
    rw [hz]
    show Calls Tryz.prog 12 #[.agg #[.int .i64 n, .slice A m c], .slice A2 m2 c2] w (RetPx w o (bset (recK n es o n).1) (recK n es o n).2.1 (fixD (recK n es o n).2.2) 0)
    refine (prest_any A m c n es A2 m2 c2 o w hT h hm h2 hg (by omega) ho).mono ?_
    rintro e w' ⟨A1, n1, c1, A2, n2, c2, rfl, h1, h2, h3, h4, h5, -, -⟩
    exact ⟨A1, n1, c1, A2, n2, c2, rfl, h1, h2, h3, h4, h5⟩
  · have k1 := fun w h h2 => asked_any A m c n es A2 m2 c2 o w h hm h2 hm2
    generalize hq : errL n es o = q at *
    have hb : (q != 0) = true := by rw [bne_iff_ne]; exact hz
    replace k1 := Lib.hid k1
    clear hq
    have b0 : Below w.heap.size w ((w.alloc (.cells #[.int .i64 n, .slice A m c] 24)).alloc (.cells #[.slice none 0 0, .slice none 0 0, .int .i64 0, .int .i64 0] 35)) := ((Below.refl _ w).alloc (Nat.le_refl _) _).alloc (by simp) _
    go_enter Tryz.func12, Tryz.ntmps12
    go_wp2_with fail
    refine (k1.out _ ((h.alloc _).alloc _) ((h2.alloc _).alloc _)).mono ?_
    rintro e w1 ⟨rfl, hb1⟩
    have R1 : Blk w1 (w.heap.size + 1) 35 #[.slice none 0 0, .slice none 0 0, .int .i64 0, .int .i64 0] := Blk.below (Blk.new' _ _ _ (by simp)) hb1 (by simp)
    have B1 := b0.trans (hb1.mono (by simp; omega))
    clear hb1 b0
    have y0 := Blk.cell R1 0
    have f0 := Blk.frozen R1 0
    have y1 := Blk.cell R1 1
    have f1 := Blk.frozen R1 1
    have y2 := Blk.cell R1 2
    have f2 := Blk.frozen R1 2
    have y3 := Blk.cell R1 3
    have f3 := Blk.frozen R1 3
    simp at y0 y1 y2 y3
    have hzz := Blk.set (Blk.set (Blk.set (Blk.set (R1) 0 (.slice none 0 0)) 1 (.slice none 0 0)) 2 (.int .i64 0)) 3 (.int .i64 0)
    have e0 := Blk.cell hzz 0
    have e1 := Blk.cell hzz 1
    have e2 := Blk.cell hzz 2
    have e3 := Blk.cell hzz 3
    simp at e0 e1 e2 e3
    have hbz := B1.grown (grown_set (grown_set (grown_set (grown_set (World.grownBy.refl w1 (some (w.heap.size + 1))) 0 (.slice none 0 0)) 1 (.slice none 0 0)) 2 (.int .i64 0)) 3 (.int .i64 0)) B1.size (fun k hk => by injection hk with hk; omega)
    clear hzz R1
    go_wp2_with fail
    refine bodyPost_ret (v := .tuple #[.agg #[.slice none 0 0, .slice none 0 0, .int .i64 0, .int .i64 0], .int .i64 q]) (by simp [results, Tryz.results12, go_sem, e0, e1, e2, e3]) rfl ?_
    exact px_err hz (by first | exact hbz | exact hbz.drew)
set_option maxRecDepth 100000 in
set_option maxHeartbeats 2000000 in
theorem rrest_all (A : Option Addr) (m c : Nat) (n : Int) (es : List (Int × Int)) (A2 : Option Addr) (m2 c2 : Nat) (o : List Int) (w : World) (h : RE w A m es) (hm : m ≤ 68719476736) (h2 : RI w A2 m2 o) (hmc : m2 ≤ c2) (hm2 : m2 ≤ 1099511627776) :
    Calls Tryz.prog 13 #[.agg #[.int .i64 n, .slice A m c], .slice A2 m2 c2] w (RetPx w (pxO (errL n es o) o) (pxS (errL n es o) n es o) (pxN (errL n es o) n es o) (pxD (errL n es o) n es o) (errL n es o)) := by
  by_cases hz : errL n es o = 0
  · obtain ⟨z0, z1, _⟩ := chkG_zero (errL_chk hz)
    obtain ⟨n, rfl⟩ := Int.eq_ofNat_of_zero_le z0
    obtain ⟨hg, ho⟩ := errL_ok hz
    rw [hz]
    show Calls Tryz.prog 13 #[.agg #[.int .i64 n, .slice A m c], .slice A2 m2 c2] w (RetPx w o (bset (recK n es o n).1) (recK n es o n).2.1 (fixD (recK n es o n).2.2) 0)
    have k1 := fun w h h2 => rwrong_any A m c n es A2 m2 c2 o w h hm h2 hm2
    rw [hz] at k1
    have k2 := fun w h h2 => rrest_any A m c n es A2 m2 c2 o w h hm h2 hmc hg (by omega) ho
    replace k1 := Lib.hid k1
    replace k2 := Lib.hid k2
    have b0 : Below w.heap.size w ((w.alloc (.cells #[.int .i64 n, .slice A m c] 24)).alloc (.cells #[.slice none 0 0, .slice none 0 0, .int .i64 0, .int .i64 0] 35)) := ((Below.refl _ w).alloc (Nat.le_refl _) _).alloc (by simp) _
    have G0 := (Blk.new w 24 #[.int .i64 n, .slice A m c]).alloc (.cells #[.slice none 0 0, .slice none 0 0, .int .i64 0, .int .i64 0] 35)
    clear hz hg ho
    go_enter Tryz.func13, Tryz.ntmps13
    go_wp2_with fail
    refine (k1.out _ ((h.alloc _).alloc _) ((h2.alloc _).alloc _)).mono ?_
    rintro e w1 ⟨rfl, hb1⟩
    have G1 := G0.below hb1 G0.lt
    have R1 : Blk w1 (w.heap.size + 1) 35 #[.slice none 0 0, .slice none 0 0, .int .i64 0, .int .i64 0] := Blk.below (Blk.new' _ _ _ (by simp)) hb1 (by simp)
    have B1 := b0.trans (hb1.mono (by simp; omega))
    have s1 := R1.lt
    obtain ⟨d0, d1⟩ := blkG G1
    have k3 := Lib.hid (k2.out w1 (h.below B1 (Nat.le_refl _)) (h2.below B1 (Nat.le_refl _)))
    clear hb1 b0 G0
    generalize (recK n es o n).2.1 = rN at *
    generalize fixD (recK n es o n).2.2 = rD at *
    generalize bset (recK n es o n).1 = rS at *
    go_wp2_with (first | (go_at_call 24; refine k3.out.mono ?_; intro e w2 hq; unfold RetPe at hq; obtain ⟨Aa, na, ca, Ab, nb, cb, rfl, hca, hcb, hra, hrb, hb2, hfa, hfb⟩ := hq
                          have R2 := R1.below hb2 s1
                          have y0 := Blk.cell R2 0
                          have y1 := Blk.cell R2 1
                          have y2 := Blk.cell R2 2
                          have y3 := Blk.cell R2 3
                          have f0 := Blk.frozen R2 0
                          have f1 := Blk.frozen R2 1
                          have f2 := Blk.frozen R2 2
                          have f3 := Blk.frozen R2 3
                          simp at y0 y1 y2 y3
                          have hzz := Blk.set (Blk.set (Blk.set (Blk.set R2 0 (.slice Aa na ca)) 1 (.slice Ab nb cb)) 2 (.int .i64 rN)) 3 (.int .i64 rD)
                          have e0 := Blk.cell hzz 0
                          have e1 := Blk.cell hzz 1
                          have e2 := Blk.cell hzz 2
                          have e3 := Blk.cell hzz 3
                          simp at e0 e1 e2 e3
                          have hgz := grown_set (grown_set (grown_set (grown_set (World.grownBy.refl w2 (some (w.heap.size + 1))) 0 (.slice Aa na ca)) 1 (.slice Ab nb cb)) 2 (.int .i64 rN)) 3 (.int .i64 rD)
                          have hrA := RI.kept hra hgz (fun ad h e => by have := hfa ad h; injection e with e; omega)
                          have hrB := RI.kept0 hrb hgz (fun ad h hp e => by have := hfb ad h hp; injection e with e; omega)
                          have hb02 := B1.trans (hb2.mono B1.size)
                          have hbz := hb02.grown hgz hb02.size (fun k hk => by injection hk with hk; omega)
                          replace hfa := Lib.hid hfa
                          replace hfb := Lib.hid hfb
                          clear hzz hgz hb02 B1 hra hrb R1 R2 hb2) | fail)
    refine bodyPost_ret (v := .tuple #[.agg #[.slice Aa na ca, .slice Ab nb cb, .int .i64 rN, .int .i64 rD], .int .i64 0]) (by simp [results, Tryz.results13, go_sem, e0, e1, e2, e3]) rfl ?_
    exact ⟨Aa, na, ca, Ab, nb, cb, rfl, hca, hcb, hrA, hrB, hbz⟩
  · have k1 := fun w h h2 => rwrong_any A m c n es A2 m2 c2 o w h hm h2 hm2
    generalize hq : errL n es o = q at *
    have hb : (q != 0) = true := by rw [bne_iff_ne]; exact hz
    replace k1 := Lib.hid k1
    clear hq
    have b0 : Below w.heap.size w ((w.alloc (.cells #[.int .i64 n, .slice A m c] 24)).alloc (.cells #[.slice none 0 0, .slice none 0 0, .int .i64 0, .int .i64 0] 35)) := ((Below.refl _ w).alloc (Nat.le_refl _) _).alloc (by simp) _
    go_enter Tryz.func13, Tryz.ntmps13
    go_wp2_with fail
    refine (k1.out _ ((h.alloc _).alloc _) ((h2.alloc _).alloc _)).mono ?_
    rintro e w1 ⟨rfl, hb1⟩
    have R1 : Blk w1 (w.heap.size + 1) 35 #[.slice none 0 0, .slice none 0 0, .int .i64 0, .int .i64 0] := Blk.below (Blk.new' _ _ _ (by simp)) hb1 (by simp)
    have B1 := b0.trans (hb1.mono (by simp; omega))
    clear hb1 b0
    have y0 := Blk.cell R1 0
    have f0 := Blk.frozen R1 0
    have y1 := Blk.cell R1 1
    have f1 := Blk.frozen R1 1
    have y2 := Blk.cell R1 2
    have f2 := Blk.frozen R1 2
    have y3 := Blk.cell R1 3
    have f3 := Blk.frozen R1 3
    simp at y0 y1 y2 y3
    have hzz := Blk.set (Blk.set (Blk.set (Blk.set (R1) 0 (.slice none 0 0)) 1 (.slice none 0 0)) 2 (.int .i64 0)) 3 (.int .i64 0)
    have e0 := Blk.cell hzz 0
    have e1 := Blk.cell hzz 1
    have e2 := Blk.cell hzz 2
    have e3 := Blk.cell hzz 3
    simp at e0 e1 e2 e3
    have hbz := B1.grown (grown_set (grown_set (grown_set (grown_set (World.grownBy.refl w1 (some (w.heap.size + 1))) 0 (.slice none 0 0)) 1 (.slice none 0 0)) 2 (.int .i64 0)) 3 (.int .i64 0)) B1.size (fun k hk => by injection hk with hk; omega)
    clear hzz R1
    go_wp2_with fail
    refine bodyPost_ret (v := .tuple #[.agg #[.slice none 0 0, .slice none 0 0, .int .i64 0, .int .i64 0], .int .i64 q]) (by simp [results, Tryz.results13, go_sem, e0, e1, e2, e3]) rfl ?_
    exact px_err hz (by first | exact hbz | exact hbz.drew)
end Go.Proofs.YtdibfecejgjfmaaGreatDoor
