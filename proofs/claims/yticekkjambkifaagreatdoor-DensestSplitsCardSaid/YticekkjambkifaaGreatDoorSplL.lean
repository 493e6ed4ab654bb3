/- The law DensestSplits. -/
import Derived.Test.YticekkjambkifaaGreatDoorRckG
import Derived.Test.YticekkjambkifaaGreatDoorRsH
import Derived.Test.YticekkjambkifaaGreatDoorSplM
import Derived.Test.YticekkjambkifaaGreatDoorPre
import Derived.Deep.CutBlock
set_option linter.unusedVariables false
set_option linter.unusedSimpArgs false
namespace Go.Proofs.YticekkjambkifaaGreatDoor.Fl
open Go.RowKit Go.Proofs.YticekkjambkifaaGreatDoor CoBit CoRat Rt

/-- A list of k splits in block gl. -/
def SPL (w : World) (gl K : Nat) : Prop := ∀ j, j < K → ∃ (d : Int) (A : Option Addr) (k c : Nat) (ps : List Int), w.cell? ⟨gl, j * 2, none⟩ = some (.int .i64 d) ∧ w.cell? ⟨gl, j * 2 + 1, none⟩ = some (.slice A k c) ∧ RI w A k ps ∧ k ≤ 1000
theorem SPL.below {w w' : World} {gl K : Nat} (h : SPL w gl K) (hl : gl < w.heap.size) (hb : Below w.heap.size w w') : SPL w' gl K := fun j hj => by
  obtain ⟨d, A, k, c, ps, h1, h2, h3, h4⟩ := h j hj
  exact ⟨d, A, k, c, ps, (hb.cell (p := ⟨gl, j * 2, none⟩) hl).trans h1, (hb.cell (p := ⟨gl, j * 2 + 1, none⟩) hl).trans h2, h3.below hb (Nat.le_refl _), h4⟩
/-- A list of K dense sets in block gl. -/
def DNL (w : World) (gl K : Nat) : Prop := ∀ j, j < K → ∃ (AS : Option Addr) (ns cs : Nat) (l : List Int) (N D d : Int) (A : Option Addr) (k c : Nat) (ps : List Int), w.cell? ⟨gl, j * 5, none⟩ = some (.slice AS ns cs) ∧ w.cell? ⟨gl, j * 5 + 1, none⟩ = some (.int .i64 N) ∧ w.cell? ⟨gl, j * 5 + 2, none⟩ = some (.int .i64 D) ∧ w.cell? ⟨gl, j * 5 + 3, none⟩ = some (.int .i64 d) ∧ w.cell? ⟨gl, j * 5 + 4, none⟩ = some (.slice A k c) ∧ RI w AS ns l ∧ ns ≤ 1000 ∧ RI w A k ps ∧ k ≤ 1000
theorem DNL.below {w w' : World} {gl K : Nat} (h : DNL w gl K) (hl : gl < w.heap.size) (hb : Below w.heap.size w w') : DNL w' gl K := fun j hj => by
  obtain ⟨AS, ns, cs, l, N, D, d, A, k, c, ps, h1, h2, h3, h4, h5, h6, h7, h8, h9⟩ := h j hj
  exact ⟨AS, ns, cs, l, N, D, d, A, k, c, ps, (hb.cell (p := ⟨gl, j * 5, none⟩) hl).trans h1, (hb.cell (p := ⟨gl, j * 5 + 1, none⟩) hl).trans h2, (hb.cell (p := ⟨gl, j * 5 + 2, none⟩) hl).trans h3, (hb.cell (p := ⟨gl, j * 5 + 3, none⟩) hl).trans h4, (hb.cell (p := ⟨gl, j * 5 + 4, none⟩) hl).trans h5, h6.below hb (Nat.le_refl _), h7, h8.below hb (Nat.le_refl _), h9⟩
theorem gb_alloc' {w w' : World} {g : Nat} (h : w.grownBy w' (some g)) (o : Obj) : w.grownBy (w'.alloc o) (some g) := grown_below h ((Below.refl w'.heap.size w').alloc (Nat.le_refl _) o) h.size
theorem gb_below' {w w' w2 : World} {g : Nat} (h : w.grownBy w' (some g)) (hb : Below w'.heap.size w' w2) : w.grownBy w2 (some g) := grown_below h hb h.size
theorem blkS {w : World} {g : Nat} {a b : Value} (h : Blk w g 36 #[a, b]) : w.cell? ⟨g, 0, none⟩ = some a ∧ w.cell? ⟨g, 1, none⟩ = some b := ⟨by have := Blk.cell h 0; simpa using this, by have := Blk.cell h 1; simpa using this⟩
theorem OI.ri' {w : World} {B : Nat} {A : Option Addr} {n c : Nat} {ys : List Int} (h : OI w B (.slice A n c) ys) : RI w A n ys := by
  obtain ⟨A', n', c', e, h1, h2, h3, h4⟩ := h.form
  injection e with e1 e2 e3
  subst e1; subst e2
  exact h4
/-- What stands behind the switch. -/
def OddS (w : World) (gk go : Nat) (wx : World) : Prop := ∃ (d : Int) (A : Option Addr) (k c : Nat) (ps : List Int), Blk wx go 36 #[.int .i64 d, .slice A k c] ∧ RI wx A k ps ∧ k ≤ 1000 ∧ Dk wx gk ∧ w.grownBy wx (some gk) ∧ (∀ ad, A = some ad → 0 < k → some ad.block ≠ some gk)
set_option maxRecDepth 100000 in
set_option maxHeartbeats 32000000 in
theorem lawSplits_any (AS0 : Option Addr) (nS0 cS0 : Nat) (lS0 : List Int) (NR DR dR : Int) (AP0 : Option Addr) (nP0 cP0 : Nat) (pR : List Int) (A0 : Option Addr) (m0 c0 : Nat) (l : List Int) (by' : Int) (w : World) (hT : Tab w) (hS0 : RI w AS0 nS0 lS0) (hP0 : RI w AP0 nP0 pR) (hnS : nS0 ≤ 1152921504606846976) (hnP : nP0 ≤ 1152921504606846976) (h0 : RI w A0 m0 l) (hmc : m0 ≤ c0) (hm0 : m0 ≤ 1152921504606846976) :
    Calls Tryz.prog 4 #[.agg #[.slice AS0 nS0 cS0, .int .i64 NR, .int .i64 DR, .int .i64 dR, .slice AP0 nP0 cP0], .slice A0 m0 c0, .int .i64 by'] w fun e w' => e = .returned (.bool true) ∧ Below w.heap.size w w' := by
  have bW : Below w.heap.size w (w.alloc (.cells #[.slice AS0 nS0 cS0, .int .i64 NR, .int .i64 DR, .int .i64 dR, .slice AP0 nP0 cP0] 38)) := (Below.refl _ w).alloc (Nat.le_refl _) _
  have R0 := Blk.new w 38 #[.slice AS0 nS0 cS0, .int .i64 NR, .int .i64 DR, .int .i64 dR, .slice AP0 nP0 cP0]
  have S1 := hS0.alloc (.cells #[.slice AS0 nS0 cS0, .int .i64 NR, .int .i64 DR, .int .i64 dR, .slice AP0 nP0 cP0] 38)
  have P1 := hP0.alloc (.cells #[.slice AS0 nS0 cS0, .int .i64 NR, .int .i64 DR, .int .i64 dR, .slice AP0 nP0 cP0] 38)
  have h00 := h0.alloc (.cells #[.slice AS0 nS0 cS0, .int .i64 NR, .int .i64 DR, .int .i64 dR, .slice AP0 nP0 cP0] 38)
  obtain ⟨LB, hLB⟩ : ∃ b : Bool, b = decide (nS0 ≤ 40 ∧ nP0 ≤ 60) := ⟨_, rfl⟩
  replace hLB := Lib.hid hLB
  clear hS0 hP0 h0
  go_enter Tryz.func4, Tryz.ntmps4
  go_upto_region 1 with fail
  generalize w.alloc (.cells #[.slice AS0 nS0 cS0, .int .i64 NR, .int .i64 DR, .int .i64 dR, .slice AP0 nP0 cP0] 38) = w0 at *
  generalize hgR : w.heap.size = gR at R0
  have d0 := Blk.cell R0 0
  have d4 := Blk.cell R0 4
  simp at d0 d4
  go_cut [37] (fun v wx => v = .bool (!LB) ∧ wx = w0)
  case first =>
    by_cases h40 : 40 < nS0
    · have i0 : (40 : Int) < (nS0 : Int) := by omega
      have hv : LB = false := by rw [hLB.out]; exact decide_eq_false (fun h => by omega)
      subst hv
      go_wp2_with fail
      go_meet
      exact ⟨rfl, rfl⟩
    · have i0 : ¬ (40 : Int) < (nS0 : Int) := by omega
      by_cases h9 : 60 < nP0
      · have i1 : (60 : Int) < (nP0 : Int) := by omega
        have hv : LB = false := by rw [hLB.out]; exact decide_eq_false (fun h => by omega)
        subst hv
        go_wp2_with fail
        go_meet
        exact ⟨rfl, rfl⟩
      · have i1 : ¬ (60 : Int) < (nP0 : Int) := by omega
        have hv : LB = true := by rw [hLB.out]; exact decide_eq_true ⟨by omega, by omega⟩
        subst hv
        go_wp2_with fail
        go_meet
        exact ⟨rfl, rfl⟩
  case rest =>
    obtain ⟨rfl, rfl⟩ := hcut
    obtain ⟨w1, rfl⟩ : ∃ w1, w1 = wc := ⟨_, rfl⟩
    clear d0 d4
    cases hL : LB with
    | false =>
      have ka := Lib.hid (awake19_any w1 (hT.keep bW))
      clear hL
      go_wp2_with (first
        | (go_at_call 6; (with_reducible refine ka.out.mono ?_); rintro e w2 ⟨rfl, hb2⟩)
        | fail)
      go_ret
      exact ⟨rfl, bW.trans (hb2.mono bW.size)⟩
    | true =>
      have hlg : nS0 ≤ 40 ∧ nP0 ≤ 60 := by have := hLB.out; rw [hL] at this; exact of_decide_eq_true this.symm
      obtain ⟨hS40, hP60⟩ := hlg
      clear hL hLB hnS hnP
      go_upto_region 3 with fail
      go_wp2_with fail
      refine (new_any A0 m0 c0 l w1 h00 hmc hm0).mono ?_
      rintro e w2 ⟨rfl, hd2, hb2, hs2⟩
      go_wp2_with fail
      refine (mkgraph_any _ 8 _ hd2 (by omega)).mono ?_
      rintro e w3 ⟨n, es, A, m, c, rfl, hmcc, hr3, hf3, hsrt, hn8, hd3, hg3⟩
      have hlen : m ≤ 64 := by
        have h1 := srt_len hsrt
        have h2 := hr3.len
        have h3 : n * n ≤ 8 * 8 := Nat.mul_le_mul (by omega) (by omega)
        omega
      have hz := Lib.hid (chk_of_srt hsrt (show (0 : Int) ≤ n by omega) (by omega))
      have hb3 : Below w1.heap.size w1 w3 := hb2.grown hg3 (by omega) (fun k hk => by injection hk with hk; omega)
      have hAk : Hid (∀ ad, A = some ad → some ad.block ≠ some w1.heap.size) := Lib.hid (fun ad e hh => by injection hh with hh; have := hf3 ad e; omega)
      have hkl := hd3.lt
      clear hb2 hg3 hd2 hs2 h00 hsrt hf3
      go_upto_region 5 with fail
      have G4 := Blk.new w3 24 #[.int .i64 n, .slice A m c]
      have E4 := hr3.alloc (.cells #[.int .i64 n, .slice A m c] 24)
      have B4 := hb3.alloc hb3.size (.cells #[.int .i64 n, .slice A m c] 24)
      have K4 := hd3.alloc (.cells #[.int .i64 n, .slice A m c] 24)
      have hgk : Hid (w1.heap.size < w3.heap.size) := Lib.hid hkl
      clear hr3 hb3 hd3 hkl
      generalize w3.alloc (.cells #[.int .i64 n, .slice A m c] 24) = w4 at *
      generalize w3.heap.size = gg at *
      obtain ⟨d0, d1⟩ := blkG G4
      have ko := Lib.hid (rones_any A m c (n : Int) es w4 E4 (by omega))
      have ngg : some gg ≠ some w1.heap.size := fun e => by injection e with e; have := hgk.out; omega
      have hK4 := K4.lt
      go_upto_region 6 with (first
        | (go_at_call 14; (with_reducible refine ko.out.mono ?_); rintro e w6 ⟨A6, n6, c6, rfl, hn6, hr6, hb6, hf6⟩
           obtain rfl : m = n6 := (by have := hr6.len; rw [List.length_replicate] at this; exact this)
           have hk6 := K4.below hb6 hK4
           have hA6 : ∀ ad, A6 = some ad → ad.block ≠ w1.heap.size := (fun ad e hh => by have := hf6 ad e; omega))
        | (go_at_call 13; (with_reducible refine (mksplit_any w1.heap.size A6 m c6 w6 hk6 hr6 hA6 (by omega)).mono ?_); intro e w7 hq; obtain ⟨den, ps, A1, c1, rfl, hF7, hc7, hr7, hf7, hk7, hg7⟩ := hq)
        | fail)
      replace hF7 := Lib.hid hF7
      have hA1k : Hid (∀ ad, A1 = some ad → some ad.block ≠ some w1.heap.size) := Lib.hid (fun ad e hh => by injection hh with hh; have := hf7 ad e; have := hk6.lt; omega)
      have hg47 : w4.grownBy w7 (some w1.heap.size) := grown_trans (grown_below (World.grownBy.refl w4 (some w1.heap.size)) hb6 (Nat.le_refl _)) hg7
      have G7 := Blk.grown G4 hg47 ngg
      have E7 := E4.kept hg47 hAk.out
      have B7 := B4.grown hg47 B4.size (fun k hk => by injection hk with hk; omega)
      have hs47 := hg47.size
      have G8 := G7.alloc (.cells #[.int .i64 den, .slice A1 m c1] 36)
      have E8 := E7.alloc (.cells #[.int .i64 den, .slice A1 m c1] 36)
      have P8 := hr7.alloc (.cells #[.int .i64 den, .slice A1 m c1] 36)
      have K8 := hk7.alloc (.cells #[.int .i64 den, .slice A1 m c1] 36)
      have B8 := B7.alloc B7.size (.cells #[.int .i64 den, .slice A1 m c1] 36)
      have Y8 := Blk.new w7 36 #[.int .i64 den, .slice A1 m c1]
      have hgs : Hid (w1.heap.size < w7.heap.size) := Lib.hid (by omega)
      clear G4 E4 K4 B4 ko hK4 d0 d1 hk6 hr6 hA6 hf6 hb6 hn6 hg7 hf7 G7 E7 B7 hr7 hk7 hg47 hs47
      generalize w7.alloc (.cells #[.int .i64 den, .slice A1 m c1] 36) = w8 at *
      generalize w7.heap.size = gs at *
      have ngs : some gs ≠ some w1.heap.size := fun e => by injection e with e; have := hgs.out; omega
      obtain ⟨d0, d1⟩ := blkS Y8
      have hY8 := Y8.lt
      have kS : Hid (∀ w' : World, Below w8.heap.size w8 w' → w'.cell? ⟨gs, 0, none⟩ = some (.int .i64 den) ∧ w'.cell? ⟨gs, 1, none⟩ = some (.slice A1 m c1)) := Lib.hid (fun w' hb => ⟨(hb.cell (p := ⟨gs, 0, none⟩) hY8).trans d0, (hb.cell (p := ⟨gs, 1, none⟩) hY8).trans d1⟩)
      have BN0 : Below w8.heap.size w8 w8.drew := (Below.refl _ w8).drew
      have BNz : Below w8.heap.size w8 (w8.alloc (.cells #[.int .i64 0, .slice none 0 0] 36)).drew := ((Below.refl _ w8).alloc (Nat.le_refl _) _).drew
      clear d0 d1
      go_cut [10] (fun p wx => ∃ (go B : Nat) (v : Value), p = .pointer (some ⟨go, 0, none⟩) ∧ Blk wx go 36 #[.int .i64 den, v] ∧ OI wx B v ps ∧ Hid (w8.heap.size ≤ B ∧ B ≤ wx.heap.size ∧ w8.heap.size ≤ go ∧ some go ≠ v.ownBlock) ∧ Below w8.heap.size w8 wx)
      case first =>
        have tok : True := trivial
        go_loud (go_region_held3 (fun w' => w'.cell? ⟨gs, 0, none⟩ = some (.int .i64 den) ∧ w'.cell? ⟨gs, 1, none⟩ = some (.slice A1 m c1))
          ((first | (with_reducible exact kS.out _ BN0) | (with_reducible exact kS.out _ BNz) | (with_reducible exact kS.out _ BN9) | (with_reducible exact kS.out _ (BN9.alloc BN9.size _)) | (exact kS.out _ ((BN9.setCell hz10 _).setCell hz10 _)) | fail))
          ((first
            | (have _t := tok; refine step_catb (w := w8.drew) (ys := []) (zs := ps) (B := w8.heap.size) (A := A1) (m := m) (c := c1) (by rfl) (.const (.slice none 0 0)) (.tmp 50) (by rfl) (by rfl) (by rfl) OI.nil_ (show RI w8.drew A1 m ps from P8) (by simp; omega) (Nat.le_refl _) ?_
               intro v9 w9 O9 b9 g9 e9
               clear tok _t
               obtain ⟨A9, n9, c9, hv9, hn9, hc9, -, hr9⟩ := O9.form
               subst hv9
               replace hn9 := Lib.hid hn9
               have BN9 : Below w8.heap.size w8 w9 := BN0.trans b9
               have hnw : some w9.heap.size ≠ (Value.slice A9 n9 c9).ownBlock := O9.ne_new)
            | (have _t := tok; refine step_catb (w := (w8.alloc (.cells #[.int .i64 0, .slice none 0 0] 36)).drew) (ys := []) (zs := ps) (B := w8.heap.size + 1) (A := A1) (m := m) (c := c1) (by rfl) (.const (.slice none 0 0)) (.tmp 50) (by rfl) (by rfl) (by rfl) OI.nil_ (show RI (w8.alloc (.cells #[.int .i64 0, .slice none 0 0] 36)).drew A1 m ps from P8.alloc _) (by simp; omega) (by simp) ?_
               intro v9 w9 O9 b9 g9 e9
               clear tok _t
               obtain ⟨A9, n9, c9, hv9, hn9, hc9, -, hr9⟩ := O9.form
               subst hv9
               replace hn9 := Lib.hid hn9
               have hzb : Blk w9 w8.heap.size 36 #[.int .i64 0, .slice none 0 0] := Blk.below (show Blk (w8.alloc (.cells #[.int .i64 0, .slice none 0 0] 36)).drew w8.heap.size 36 #[.int .i64 0, .slice none 0 0] from Blk.new w8 _ _) b9 (by simp)
               have hz10 : w8.heap.size ≤ w8.heap.size := Nat.le_refl _
               have BN9 : Below w8.heap.size w8 w9 := BNz.trans (b9.mono (by simp))
               have hnw : some w8.heap.size ≠ (Value.slice A9 n9 c9).ownBlock := (fun e => by have := (O9.block_lt _ e.symm).1; omega)
               have z0 := Blk.cell hzb 0; have z1 := Blk.cell hzb 1; have f0 := Blk.frozen hzb 0; have f1 := Blk.frozen hzb 1; simp at z0 z1)
            | fail)))
        all_goals go_wp2_with fail
        all_goals go_meet
        all_goals (first
          | exact ⟨_, w8.heap.size, _, rfl, Blk.new _ _ _, World.ownsRow.alloc O9 _, Lib.hid ⟨Nat.le_refl _, Nat.le_trans BN9.size (by simp), BN9.size, hnw⟩, BN9.alloc BN9.size _⟩
          | exact ⟨_, w8.heap.size + 1, _, rfl, Blk.set (Blk.set hzb 0 (.int .i64 den)) 1 (.slice A9 n9 c9), ownsRow_setCell_other (ownsRow_setCell_other O9 (fun e => hnw e.symm) _) (fun e => hnw e.symm) _, Lib.hid ⟨Nat.le_succ _, (by have := hzb.lt; simp; omega), Nat.le_refl _, hnw⟩, (BN9.setCell hz10 _).setCell hz10 _⟩)
      case rest =>
        obtain ⟨go, B, v, rfl, Z9, O9, hB, hb9⟩ := hcut
        obtain ⟨w9, rfl⟩ : ∃ w9, w9 = wc := ⟨_, rfl⟩
        have K9 := K8.below hb9 K8.lt
        have hg9 : w8.grownBy w9 (some w1.heap.size) := grown_below (World.grownBy.refl w8 (some w1.heap.size)) hb9 (Nat.le_refl _)
        have hpl : Hid (ps.length = m ∧ m ≤ 64) := Lib.hid ⟨hF7.out.2.2.1, hlen⟩
        have hB2 : Hid (w1.heap.size < B ∧ w8.heap.size ≤ B ∧ B ≤ w9.heap.size ∧ w8.heap.size ≤ go ∧ some go ≠ v.ownBlock ∧ w1.heap.size < go) := Lib.hid (by have h1 := hB.out; have h2 := K8.lt; exact ⟨by omega, by omega, by omega, by omega, h1.2.2.2, by omega⟩)
        have ngo : some go ≠ some w1.heap.size := fun e => by injection e with e; have := hB2.out; omega
        clear kS BN0 BNz hB hb9
        go_wp2_with fail
        refine (next_any w1.heap.size 4 _ K9 (by omega)).mono ?_
        rintro e w10 ⟨r, rfl, r0, r1, -, K10, hg10⟩
        replace r1 := r1 (by omega)
        have nvk : Hid (v.ownBlock = none ∨ v.ownBlock ≠ some w1.heap.size) := Lib.hid (by
          cases h : v.ownBlock with
          | none => exact .inl rfl
          | some k => right; intro e; injection e with e; have := (O9.block_lt k h).1; have := hB2.out; omega)
        have Z10 := Z9.grown hg10 ngo
        have O10 := OI.kept O9 hg10 nvk.out
        have g10 := grown_trans hg9 hg10
        have hs10 : Hid (w9.heap.size ≤ w10.heap.size) := Lib.hid hg10.size
        clear K9 hg9 hg10 Z9 O9
        obtain ⟨P9, n9, c9, hv9, hn9, hc9, -, R10⟩ := O10.form
        subst hv9
        replace hn9 := Lib.hid hn9
        have hn9b : n9 ≤ 64 := by rw [hn9.out, hpl.out.1]; exact hlen
        have hP9k : Hid (∀ ad, P9 = some ad → some ad.block ≠ some w1.heap.size) := Lib.hid (fun ad e hh => by
          subst e
          rcases nvk.out with h | h
          · cases h
          · exact h hh)
        obtain ⟨z0, z1⟩ := blkS Z10
        have f0 := Blk.frozen Z10 0
        have f1 := Blk.frozen Z10 1
        go_upto_block 0 with fail
        go_cut [] (fun wx => OddS w8 w1.heap.size go wx)
        case first =>
          have hr : r = 0 ∨ r = 1 ∨ r = 2 ∨ r = 3 := by omega
          rcases hr with rfl | rfl | rfl | rfl
          · have T11 : AI (w10.alloc (.cells #[.int .i64 0, .int .i64 (-1), .int .i64 1048576, .int .i64 1048577] 3)) w10.heap.size [0, -1, 1048576, 1048577] := Blk.new w10 _ _
            have Z11 := Z10.alloc (.cells #[.int .i64 0, .int .i64 (-1), .int .i64 1048576, .int .i64 1048577] 3)
            have K11 := K10.alloc (.cells #[.int .i64 0, .int .i64 (-1), .int .i64 1048576, .int .i64 1048577] 3)
            have O11 := OI.alloc O10 (.cells #[.int .i64 0, .int .i64 (-1), .int .i64 1048576, .int .i64 1048577] 3)
            have g11 := gb_alloc' g10 (.cells #[.int .i64 0, .int .i64 (-1), .int .i64 1048576, .int .i64 1048577] 3)
            have ntb : some w10.heap.size ≠ some w1.heap.size := fun e => by injection e with e; have := K10.lt; omega
            clear O10 Z10 R10 K10 g10 z0 z1 f0 f1
            go_wp2_with fail
            refine (next_any w1.heap.size 4 _ K11 (by omega)).mono ?_
            rintro e w12 ⟨x, rfl, x0, x1, -, K12, hg12⟩
            replace x1 := x1 (by omega)
            obtain ⟨x, rfl⟩ := Int.eq_ofNat_of_zero_le x0
            have T12 : AI w12 w10.heap.size [0, -1, 1048576, 1048577] := Blk.grown T11 hg12 ntb
            have cx := AI.cell T12 (i := x) (by simp; omega)
            generalize List.getD [0, -1, 1048576, 1048577] x 0 = y at cx
            have Z12 := Z11.grown hg12 ngo
            have O12 := OI.kept O11 hg12 nvk.out
            have g12 := grown_trans g11 hg12
            obtain ⟨z0, z1⟩ := blkS Z12
            have f0 := Blk.frozen Z12 0
            have hR13 := OI.ri' (ownsRow_setCell_other O12 (a := ⟨go, 0, none⟩) (fun e => hB2.out.2.2.2.2.1 e.symm) (.int .i64 y))
            have hfin : Hid (OddS w8 w1.heap.size go (w12.setCell ⟨go, 0, none⟩ (.int .i64 y))) := Lib.hid ⟨y, P9, n9, c9, ps, Blk.set Z12 0 (.int .i64 y), hR13, by omega, K12.below ((Below.refl (w1.heap.size + 1) w12).setCell (p := ⟨go, 0, none⟩) (by have := hB2.out; show w1.heap.size + 1 ≤ go; omega) _) (Nat.lt_succ_self _), grown_set_new g12 (p := ⟨go, 0, none⟩) (by have := hB2.out; show w8.heap.size ≤ go; omega) _, fun ad e _ => hP9k.out ad e⟩
            clear T11 Z11 O11 K11 g11 T12 Z12 O12 K12 g12 hg12 hR13
            go_wp2_with fail
            go_meet
            exact hfin.out
          · have hB10 : B ≤ (w10.alloc (.cells #[.int .i64 0] 3)).heap.size := by have := hB2.out; have := hs10.out; simp; omega
            have hps : ps.length + 1 ≤ 2199023255552 := by rw [hpl.out.1]; omega
            have hgo10 : Hid (go < w10.heap.size) := Lib.hid Z10.lt
            have O11 := OI.alloc O10 (.cells #[.int .i64 0] 3)
            have Z11 := Z10.alloc (.cells #[.int .i64 0] 3)
            have K11 := K10.alloc (.cells #[.int .i64 0] 3)
            have g11 := gb_alloc' g10 (.cells #[.int .i64 0] 3)
            clear R10 O10 Z10 K10 g10
            go_wp2_with (first
              | (at_builtin; refine wpList_catb (w := w10.alloc (.cells #[.int .i64 0] 3)) (zs := [0]) rfl _ _ rfl rfl rfl O11 (RI.one 0) hps hB10 ?_
                 intro v' w' ho' hb' hg' ho2
                 obtain ⟨P', n', c', hv', hn', -, -, hr'⟩ := ho'.form
                 subst hv'
                 replace hn' := Lib.hid hn'
                 replace ho2 : Hid ((Value.slice P' n' c').ownBlock = (Value.slice P9 n9 c9).ownBlock ∨ ∃ k, (Value.slice P' n' c').ownBlock = some k ∧ (w10.alloc (.cells #[.int .i64 0] 3)).heap.size ≤ k) := Lib.hid ho2
                 have Z12 := Blk.grown Z11 hg' hB2.out.2.2.2.2.1
                 have q1 := (blkS Z12).2
                 have q2 := Blk.frozen Z12 1)
              | fail)
            have K12 : Dk w' w1.heap.size := K11.grown hg' (fun q hq => by have := (O11.block_lt q hq).1; have := hB2.out; omega)
            have g12 : w8.grownBy w' (some w1.heap.size) := grown_of_new g11 hg' (fun q hq => by have := (O11.block_lt q hq).1; have := hB2.out; omega)
            have hng : (Value.slice P' n' c').ownBlock ≠ some go := (fun e => by
              rcases ho2.out with h | ⟨k, h, hk⟩
              · rw [h] at e; exact hB2.out.2.2.2.2.1 e.symm
              · rw [h] at e; injection e with e; have := hgo10.out; have h3 : (w10.alloc (.cells #[.int .i64 0] 3)).heap.size = w10.heap.size + 1 := by simp
                omega)
            have hR13 := OI.ri' (ownsRow_setCell_other ho' (a := ⟨go, 1, none⟩) hng (.slice P' n' c'))
            have hPk' : ∀ ad, P' = some ad → 0 < n' → some ad.block ≠ some w1.heap.size := fun ad e _ hh => by
              subst e
              injection hh with hh
              rcases ho2.out with h | ⟨k, h, hk⟩
              · rcases nvk.out with h2 | h2
                · rw [h2] at h; cases h
                · exact h2 (by rw [← h]; show some ad.block = _; rw [hh])
              · have h2 : some ad.block = some k := h
                injection h2 with h2
                have := K11.lt
                omega
            have hn64 : n' ≤ 1000 := by rw [hn'.out, List.length_append, hpl.out.1]; simp; omega
            go_meet
            exact ⟨den, P', n', c', _, Blk.set Z12 1 (.slice P' n' c'), hR13, hn64, K12.below ((Below.refl (w1.heap.size + 1) w').setCell (p := ⟨go, 1, none⟩) (by have := hB2.out; show w1.heap.size + 1 ≤ go; omega) _) (Nat.lt_succ_self _), grown_set_new g12 (p := ⟨go, 1, none⟩) (by have := hB2.out; show w8.heap.size ≤ go; omega) _, hPk'⟩
          · by_cases hn0 : 0 < n9
            · have i0 : (0 : Int) < (n9 : Int) := by omega
              obtain ⟨gp, hPg, -, -, hBg, -, -, -, -⟩ := O10.slot (i := 0) (by rw [← hn9.out]; exact hn0)
              subst hPg
              have kn := Lib.hid (next_any w1.heap.size (n9 : Int) w10.drew (show Dk w10.drew w1.heap.size from K10) (by omega))
              go_upto_region 14 with fail
              have z1d : w10.drew.cell? ⟨go, 1, none⟩ = some (.slice (some ⟨gp, 0, none⟩) n9 c9) := z1
              go_loud (go_region_held3 (fun w' => w'.cell? ⟨go, 1, none⟩ = some (.slice (some ⟨gp, 0, none⟩) n9 c9))
                ((first | (with_reducible exact z1d) | (with_reducible exact z1c) | (with_reducible exact z1s) | fail))
                ((first
                  | (go_at_call 15; (with_reducible refine kn.out.mono ?_); rintro e w12 ⟨x, rfl, x0, x1, -, K12, hg12⟩
                     replace x1 := x1 (by omega)
                     obtain ⟨x, rfl⟩ := Int.eq_ofNat_of_zero_le x0
                     have O12 := OI.kept (OI.drew O10) hg12 nvk.out
                     have Z12 := Blk.grown (Blk.drew Z10) hg12 ngo
                     have z1c := (blkS Z12).2
                     obtain ⟨g', hg', -, -, -, -, hcl, hfz, hset⟩ := O12.slot (i := x) (by have := hn9.out; omega)
                     obtain rfl : gp = g' := (by injection hg' with hg'; injection hg')
                     have ngg' : go ≠ gp := (fun e => hB2.out.2.2.2.2.1 (by rw [e]; rfl))
                     have z1s := (blkS (Z12.far (p := ⟨gp, x, none⟩) ngg' (.int .i64 by'))).2)
                  | fail)))
              all_goals go_wp2_with fail
              all_goals go_meet
              all_goals
                have h1 := hB2.out
                have hR13 := OI.ri' (hset by')
                exact ⟨den, some ⟨gp, 0, none⟩, n9, c9, _, Z12.far (p := ⟨gp, x, none⟩) ngg' _, hR13, by omega, K12.below ((Below.refl (w1.heap.size + 1) w12).setCell (p := ⟨gp, x, none⟩) (by show w1.heap.size + 1 ≤ gp; omega) _) (Nat.lt_succ_self _), grown_set_new (grown_trans (grown_drew g10) hg12) (p := ⟨gp, x, none⟩) (by show w8.heap.size ≤ gp; omega) _, fun ad e _ => hP9k.out ad e⟩
            · have i0 : ¬ (0 : Int) < (n9 : Int) := by omega
              have hfin : Hid (OddS w8 w1.heap.size go w10) := Lib.hid ⟨den, P9, n9, c9, ps, Z10, R10, by omega, K10, g10, fun ad e _ => hP9k.out ad e⟩
              clear O10 Z10 R10 K10 g10 f0 f1
              go_wp2_with fail
              go_meet
              exact hfin.out
          · have hfin : Hid (OddS w8 w1.heap.size go w10) := Lib.hid ⟨den, P9, n9, c9, ps, Z10, R10, by omega, K10, g10, fun ad e _ => hP9k.out ad e⟩
            clear O10 Z10 R10 K10 g10 z0 z1 f0 f1
            go_wp2_with fail
            go_meet
            exact hfin.out
        case rest =>
          obtain ⟨dO, AO, kO, cO, pO, Z11, RO, hkO, K11, g11, hOk⟩ := hcut
          obtain ⟨w11, rfl⟩ : ∃ w11, w11 = wc := ⟨_, rfl⟩
          have G11 := Blk.grown G8 g11 ngg
          have E11 := E8.kept g11 hAk.out
          have Y11 := Blk.grown Y8 g11 ngs
          have P11 := P8.kept g11 hA1k.out
          have B11 := B8.grown g11 B8.size (fun k hk => by injection hk with hk; omega)
          have R11 := R0.below B11 R0.lt
          have SR11 := S1.below B11 (Nat.le_refl _)
          have PR11 := P1.below B11 (Nat.le_refl _)
          clear O10 Z10 R10 K10 g10 z0 z1 f0 f1 g11 nvk hP9k hs10 hB2 hn9 hn9b K8 G8 E8 Y8 P8 hY8 B8 hOk ngo hc9
          obtain ⟨y0, y1⟩ := blkS Y11
          obtain ⟨z0, z1⟩ := blkS Z11
          have u3 := Blk.cell R11 3
          have u4 := Blk.cell R11 4
          simp at u3 u4
          have hSL : SPL (w11.alloc (.cells #[.int .i64 den, .slice A1 m c1, .int .i64 dO, .slice AO kO cO, .int .i64 dR, .slice AP0 nP0 cP0] 36)) w11.heap.size 3 := by
            have hBk := Blk.new w11 36 #[.int .i64 den, .slice A1 m c1, .int .i64 dO, .slice AO kO cO, .int .i64 dR, .slice AP0 nP0 cP0]
            intro j hj
            have hjj : j = 0 ∨ j = 1 ∨ j = 2 := by omega
            rcases hjj with rfl | rfl | rfl
            · exact ⟨den, A1, m, c1, ps, hBk.cell 0, hBk.cell 1, P11.alloc _, by omega⟩
            · exact ⟨dO, AO, kO, cO, pO, hBk.cell 2, hBk.cell 3, RO.alloc _, hkO⟩
            · exact ⟨dR, AP0, nP0, cP0, pR, hBk.cell 4, hBk.cell 5, PR11.alloc _, by omega⟩
          go_upto_region 16 with fail
          have GW := G11.alloc (.cells #[.int .i64 den, .slice A1 m c1, .int .i64 dO, .slice AO kO cO, .int .i64 dR, .slice AP0 nP0 cP0] 36)
          have EW := E11.alloc (.cells #[.int .i64 den, .slice A1 m c1, .int .i64 dO, .slice AO kO cO, .int .i64 dR, .slice AP0 nP0 cP0] 36)
          have YW := Y11.alloc (.cells #[.int .i64 den, .slice A1 m c1, .int .i64 dO, .slice AO kO cO, .int .i64 dR, .slice AP0 nP0 cP0] 36)
          have QW := P11.alloc (.cells #[.int .i64 den, .slice A1 m c1, .int .i64 dO, .slice AO kO cO, .int .i64 dR, .slice AP0 nP0 cP0] 36)
          have RW := R11.alloc (.cells #[.int .i64 den, .slice A1 m c1, .int .i64 dO, .slice AO kO cO, .int .i64 dR, .slice AP0 nP0 cP0] 36)
          have SRW := SR11.alloc (.cells #[.int .i64 den, .slice A1 m c1, .int .i64 dO, .slice AO kO cO, .int .i64 dR, .slice AP0 nP0 cP0] 36)
          have PRW := PR11.alloc (.cells #[.int .i64 den, .slice A1 m c1, .int .i64 dO, .slice AO kO cO, .int .i64 dR, .slice AP0 nP0 cP0] 36)
          have KW := K11.alloc (.cells #[.int .i64 den, .slice A1 m c1, .int .i64 dO, .slice AO kO cO, .int .i64 dR, .slice AP0 nP0 cP0] 36)
          have BW := B11.alloc B11.size (.cells #[.int .i64 den, .slice A1 m c1, .int .i64 dO, .slice AO kO cO, .int .i64 dR, .slice AP0 nP0 cP0] 36)
          have hgl : w11.heap.size < (w11.alloc (.cells #[.int .i64 den, .slice A1 m c1, .int .i64 dO, .slice AO kO cO, .int .i64 dR, .slice AP0 nP0 cP0] 36)).heap.size := by simp
          clear G11 E11 Y11 P11 R11 SR11 PR11 K11 B11 y0 y1 z0 z1 u3 u4 Z11 RO
          generalize w11.alloc (.cells #[.int .i64 den, .slice A1 m c1, .int .i64 dO, .slice AO kO cO, .int .i64 dR, .slice AP0 nP0 cP0] 36) = W at *
          generalize w11.heap.size = gl at *
          replace hSL := Lib.hid hSL
          go_loopw [91] (fun i wr => ∃ k : Nat, k ≤ 3 ∧ i = .int .i64 (k : Nat) ∧ Below W.heap.size W wr) (fun i _ => 3 - (intOf i).toNat)
          case atStart => exact ⟨0, Nat.zero_le _, rfl, Below.refl _ _⟩
          case round =>
            obtain ⟨k, hk, rfl, hb⟩ := hrel
            by_cases hlt : k < 3
            · have i0 : (k : Int) < 3 := by omega
              obtain ⟨dx, Ax, kx, cx, psx, y0, y1, hX, hkx⟩ := (hSL.out.below hgl hb) k hlt
              have Gr := GW.below hb GW.lt
              have Er := EW.below hb (Nat.le_refl _)
              clear GW EW YW QW RW SRW PRW KW
              go_upto_region 18 with fail
              have Z6 := Blk.new wr 36 #[.int .i64 dx, .slice Ax kx cx]
              have G6 := Gr.alloc (.cells #[.int .i64 dx, .slice Ax kx cx] 36)
              have E6 := Er.alloc (.cells #[.int .i64 dx, .slice Ax kx cx] 36)
              have X6 := hX.alloc (.cells #[.int .i64 dx, .slice Ax kx cx] 36)
              have b6 := hb.alloc hb.size (.cells #[.int .i64 dx, .slice Ax kx cx] 36)
              clear y0 y1 Gr Er hb hX
              generalize wr.alloc (.cells #[.int .i64 dx, .slice Ax kx cx] 36) = w6 at *
              generalize wr.heap.size = gx at *
              by_cases hF : FitS m dx psx
              · skip
                have hkm : kx = m := by rw [← X6.len]; exact hF.2.2.1
                subst hkm
                have hFh := Lib.hid hF
                have hp4 : Hid (∀ p ∈ psx, 0 ≤ p ∧ p ≤ dx) := Lib.hid hF.2.2.2
                have hd1 : 1 ≤ dx := hF.1
                have hd2 : dx ≤ 1048576 := hF.2.1
                clear hF
                have hll : (ldL n dx es psx).length = n := by unfold ldL; simp
                have k1 := fun w h h1 => dloads_r A kx c n es dx Ax kx cx psx w h h1 (by omega) hz.out (by omega) hFh.out
                have k2 := fun w h h1 => rloads_ok A kx c n es dx Ax cx psx w h h1 (by omega) hz.out (by omega) hd1 hd2 hp4.out
                have k3 := fun w h h1 => dbound_r A kx c n es dx Ax kx cx psx w h h1 (by omega) hz.out (by omega) hFh.out
                have k4 := fun w h h1 => rbound_ok A kx c n es dx Ax cx psx w h h1 (by omega) hz.out (by omega) hd1 hd2 hp4.out
                generalize mkN (maxL (ldL n dx es psx)) dx = P at k3 k4
                generalize mkD (maxL (ldL n dx es psx)) dx = Q at k3 k4
                generalize ldL n dx es psx = LL at *
                replace k1 := Lib.hid k1
                replace k2 := Lib.hid k2
                replace k3 := Lib.hid k3
                replace k4 := Lib.hid k4
                obtain ⟨d0, d1⟩ := blkG G6
                obtain ⟨z0, z1⟩ := blkS Z6
                go_upto_region 19 with (first
                  | (go_at_call 16; (with_reducible refine (k1.out _ E6 X6).mono ?_); intro e w7 hq; obtain ⟨ga, rfl, -, hA7, hb7⟩ := hq)
                  | fail)
                have h67 := hb7.size
                have G7 := G6.below hb7 (G6.lt)
                have E7 := E6.below hb7 (Nat.le_refl _)
                have X7 := X6.below hb7 (Nat.le_refl _)
                have Z7 := Z6.below hb7 (Z6.lt)
                have b7 := b6.trans (hb7.mono b6.size)
                clear G6 E6 X6 Z6 b6 hb7 k1 d0 d1 z0 z1
                obtain ⟨d0, d1⟩ := blkG G7
                obtain ⟨z0, z1⟩ := blkS Z7
                go_upto_region 20 with (first
                  | (go_at_call 17; (with_reducible refine (k2.out _ E7 X7).mono ?_); intro e w8 hq; obtain ⟨A8, n8, c8, rfl, -, hR8, hb8⟩ := hq)
                  | fail)
                have G8 := G7.below hb8 (G7.lt)
                have E8 := E7.below hb8 (Nat.le_refl _)
                have X8 := X7.below hb8 (Nat.le_refl _)
                have Z8 := Z7.below hb8 (Z7.lt)
                have b8 := b7.trans (hb8.mono b7.size)
                have hA8 := hA7.below hb8 hA7.lt
                clear G7 E7 X7 Z7 b7 hb8 k2 d0 d1 z0 z1
                obtain ⟨d0, d1⟩ := blkG G8
                obtain ⟨z0, z1⟩ := blkS Z8
                go_upto_region 21 with (first
                  | (go_at_call 18; (with_reducible refine (k3.out _ E8 X8).mono ?_); rintro e w9 ⟨rfl, hb9⟩)
                  | fail)
                have G9 := (G8.below hb9 (G8.lt)).alloc (.cells #[.int .i64 P, .int .i64 Q] 34)
                have E9 := (E8.below hb9 (Nat.le_refl _)).alloc (.cells #[.int .i64 P, .int .i64 Q] 34)
                have X9 := (X8.below hb9 (Nat.le_refl _)).alloc (.cells #[.int .i64 P, .int .i64 Q] 34)
                have Z9 := (Z8.below hb9 (Z8.lt)).alloc (.cells #[.int .i64 P, .int .i64 Q] 34)
                have b9 := (b8.trans (hb9.mono b8.size)).alloc (b8.trans (hb9.mono b8.size)).size (.cells #[.int .i64 P, .int .i64 Q] 34)
                have F9 := Blk.new w9 34 #[.int .i64 P, .int .i64 Q]
                have A9 := (hA8.below hb9 hA8.lt).alloc (.cells #[.int .i64 P, .int .i64 Q] 34)
                have R9 := (hR8.below hb9 (Nat.le_refl _)).alloc (.cells #[.int .i64 P, .int .i64 Q] 34)
                clear G8 E8 X8 Z8 b8 hb9 k3 d0 d1 z0 z1 hA8 hA7 hR8
                generalize w9.alloc (.cells #[.int .i64 P, .int .i64 Q] 34) = W9 at *
                generalize w9.heap.size = gp at *
                obtain ⟨d0, d1⟩ := blkG G9
                obtain ⟨z0, z1⟩ := blkS Z9
                go_upto_region 22 with (first
                  | (go_at_call 19; (with_reducible refine (k4.out _ E9 X9).mono ?_); rintro e wa ⟨rfl, hba⟩)
                  | fail)
                have b10 := (b9.trans (hba.mono b9.size)).alloc (b9.trans (hba.mono b9.size)).size (.cells #[.int .i64 P, .int .i64 Q] 34)
                have F10 := (F9.below hba F9.lt).alloc (.cells #[.int .i64 P, .int .i64 Q] 34)
                have H10 := Blk.new wa 34 #[.int .i64 P, .int .i64 Q]
                have A10 := (A9.below hba A9.lt).alloc (.cells #[.int .i64 P, .int .i64 Q] 34)
                have R10 := (R9.below hba (Nat.le_refl _)).alloc (.cells #[.int .i64 P, .int .i64 Q] 34)
                clear G9 E9 X9 Z9 b9 hba k4 d0 d1 z0 z1 F9 A9 R9
                generalize wa.alloc (.cells #[.int .i64 P, .int .i64 Q] 34) = W10 at *
                generalize wa.heap.size = gq at *
                have f0 := Blk.cell F10 0
                have f1 := Blk.cell F10 1
                have g0 := Blk.cell H10 0
                have g1 := Blk.cell H10 1
                simp at f0 f1 g0 g1
                have e1 : (P == P) = true := beq_self_eq_true _
                have e2 : (Q == Q) = true := beq_self_eq_true _
                have hn8 : n8 = n := by rw [← R10.len]; exact hll
                subst hn8
                have ks := same_any (some ⟨ga, 0, none⟩) A8 n8 n8 n8 c8 LL LL W10 (A10.ri hll.symm) (by omega) R10 (by omega)
                rw [decide_eq_true rfl] at ks
                replace ks := Lib.hid ks
                clear hll
                go_wp2_with (first
                  | (go_at_call 11; (with_reducible refine ks.out.mono ?_); rintro e w11 ⟨rfl, q, rfl⟩
                     have b11 := below_drewN b10 q)
                  | fail)
                go_roundw
                case rel => exact ⟨k + 1, by omega, by go_num, b11⟩
                case measure => simp [intOf]; omega
              · skip
                have hFh := Lib.hid hF
                clear hF
                have k1 := Lib.hid (fun w h h1 => dloads_f A m c n es dx Ax kx cx psx w h h1 (by omega) (by omega) hz.out hFh.out)
                have k2 := Lib.hid (fun w h h1 => rloads_f A m c n es dx Ax kx cx psx w h h1 (by omega) (by omega) hz.out hFh.out)
                have k3 := Lib.hid (fun w h h1 => dbound_f A m c n es dx Ax kx cx psx w h h1 (by omega) (by omega) hz.out hFh.out)
                have k4 := Lib.hid (fun w h h1 => rbound_f A m c n es dx Ax kx cx psx w h h1 (by omega) (by omega) hz.out hFh.out)
                obtain ⟨d0, d1⟩ := blkG G6
                obtain ⟨z0, z1⟩ := blkS Z6
                go_upto_region 19 with (first
                  | (go_at_call 16; (with_reducible refine (k1.out _ E6 X6).mono ?_); rintro e w7 ⟨rfl, hb7⟩)
                  | fail)
                have h67 := hb7.size
                have G7 := G6.below hb7 (G6.lt)
                have E7 := E6.below hb7 (Nat.le_refl _)
                have X7 := X6.below hb7 (Nat.le_refl _)
                have Z7 := Z6.below hb7 (Z6.lt)
                have b7 := b6.trans (hb7.mono b6.size)
                clear G6 E6 X6 Z6 b6 hb7 k1 d0 d1 z0 z1
                obtain ⟨d0, d1⟩ := blkG G7
                obtain ⟨z0, z1⟩ := blkS Z7
                go_upto_region 20 with (first
                  | (go_at_call 17; (with_reducible refine (k2.out _ E7 X7).mono ?_); rintro e w8 ⟨rfl, hb8⟩)
                  | fail)
                have G8 := G7.below hb8 (G7.lt)
                have E8 := E7.below hb8 (Nat.le_refl _)
                have X8 := X7.below hb8 (Nat.le_refl _)
                have Z8 := Z7.below hb8 (Z7.lt)
                have b8 := b7.trans (hb8.mono b7.size)
                clear G7 E7 X7 Z7 b7 hb8 k2 d0 d1 z0 z1
                obtain ⟨d0, d1⟩ := blkG G8
                obtain ⟨z0, z1⟩ := blkS Z8
                go_upto_region 21 with (first
                  | (go_at_call 18; (with_reducible refine (k3.out _ E8 X8).mono ?_); rintro e w9 ⟨rfl, hb9⟩)
                  | fail)
                have G9 := (G8.below hb9 (G8.lt)).alloc (.cells #[.int .i64 0, .int .i64 0] 34)
                have E9 := (E8.below hb9 (Nat.le_refl _)).alloc (.cells #[.int .i64 0, .int .i64 0] 34)
                have X9 := (X8.below hb9 (Nat.le_refl _)).alloc (.cells #[.int .i64 0, .int .i64 0] 34)
                have Z9 := (Z8.below hb9 (Z8.lt)).alloc (.cells #[.int .i64 0, .int .i64 0] 34)
                have b9 := (b8.trans (hb9.mono b8.size)).alloc (b8.trans (hb9.mono b8.size)).size (.cells #[.int .i64 0, .int .i64 0] 34)
                have F9 := Blk.new w9 34 #[.int .i64 0, .int .i64 0]
                clear G8 E8 X8 Z8 b8 hb9 k3 d0 d1 z0 z1 
                generalize w9.alloc (.cells #[.int .i64 0, .int .i64 0] 34) = W9 at *
                generalize w9.heap.size = gp at *
                obtain ⟨d0, d1⟩ := blkG G9
                obtain ⟨z0, z1⟩ := blkS Z9
                go_upto_region 22 with (first
                  | (go_at_call 19; (with_reducible refine (k4.out _ E9 X9).mono ?_); rintro e wa ⟨rfl, hba⟩)
                  | fail)
                have b10 := (b9.trans (hba.mono b9.size)).alloc (b9.trans (hba.mono b9.size)).size (.cells #[.int .i64 0, .int .i64 0] 34)
                have F10 := (F9.below hba F9.lt).alloc (.cells #[.int .i64 0, .int .i64 0] 34)
                have H10 := Blk.new wa 34 #[.int .i64 0, .int .i64 0]
                clear G9 E9 X9 Z9 b9 hba k4 d0 d1 z0 z1 F9 
                generalize wa.alloc (.cells #[.int .i64 0, .int .i64 0] 34) = W10 at *
                generalize wa.heap.size = gq at *
                have f0 := Blk.cell F10 0
                have f1 := Blk.cell F10 1
                have g0 := Blk.cell H10 0
                have g1 := Blk.cell H10 1
                simp at f0 f1 g0 g1
                have ks := same_any none none 0 0 0 0 [] [] W10 RI.none_ (by omega) RI.none_ (by omega)
                rw [decide_eq_true rfl] at ks
                replace ks := Lib.hid ks
                go_wp2_with (first
                  | (go_at_call 11; (with_reducible refine ks.out.mono ?_); rintro e w11 ⟨rfl, q, rfl⟩
                     have b11 := below_drewN b10 q)
                  | fail)
                go_roundw
                case rel => exact ⟨k + 1, by omega, by go_num, b11⟩
                case measure => simp [intOf]; omega
            · obtain rfl : k = 3 := by omega
              have Gr := GW.below hb GW.lt
              have Er := EW.below hb (Nat.le_refl _)
              have Yr := YW.below hb YW.lt
              have Qr := QW.below hb (Nat.le_refl _)
              have Kr := KW.below hb KW.lt
              have Br := BW.trans (hb.mono BW.size)
              have hTr := hT.keep (bW.trans (Br.mono bW.size))
              clear GW EW YW QW KW BW RW SRW PRW hb hSL hgl hk hlt
              obtain ⟨d0, d1⟩ := blkG Gr
              have kb := Lib.hid (best_anyF A m c n es wr Er hTr (by omega) hz.out (by omega))
              have hrK := Kr.lt
              go_upto_region 26 with (first
                | (go_at_call 9; (with_reducible refine kb.out.mono ?_); intro e wb hq; obtain ⟨x, N, D, pb, AS, ns, cs, AP, np, cp, rfl, hDB, hns, hnp, hSb, hPb, hbb, hfS, hfP⟩ := hq)
                | fail)
              have hns64 : ns ≤ 64 := by have h : ns = pop x := (by rw [← hSb.len]; unfold bset; rw [nts_length, pop_bl]); rw [h]; exact pop_le x
              have hnpm : np ≤ 64 := by rw [← hPb.len, hDB.plen, Er.len]; exact hlen
              have hASk : Hid (∀ ad, AS = some ad → some ad.block ≠ some w1.heap.size) := Lib.hid (fun ad e hh => by injection hh with hh; have := hfS ad e; omega)
              have hAPk : Hid (∀ ad, AP = some ad → some ad.block ≠ some w1.heap.size) := Lib.hid (fun ad e hh => by injection hh with hh; have := hfP ad e; omega)
              have hkb : Hid (w1.heap.size < wb.heap.size) := Lib.hid (by have := hbb.size; omega)
              have G5 := (Gr.below hbb Gr.lt).alloc (.cells #[.slice AS ns cs, .int .i64 (N : Nat), .int .i64 (D : Nat), .int .i64 (D : Nat), .slice AP np cp] 38)
              have E5 := (Er.below hbb (Nat.le_refl _)).alloc (.cells #[.slice AS ns cs, .int .i64 (N : Nat), .int .i64 (D : Nat), .int .i64 (D : Nat), .slice AP np cp] 38)
              have Y5 := (Yr.below hbb Yr.lt).alloc (.cells #[.slice AS ns cs, .int .i64 (N : Nat), .int .i64 (D : Nat), .int .i64 (D : Nat), .slice AP np cp] 38)
              have Q5 := (Qr.below hbb (Nat.le_refl _)).alloc (.cells #[.slice AS ns cs, .int .i64 (N : Nat), .int .i64 (D : Nat), .int .i64 (D : Nat), .slice AP np cp] 38)
              have K5 := (Kr.below hbb Kr.lt).alloc (.cells #[.slice AS ns cs, .int .i64 (N : Nat), .int .i64 (D : Nat), .int .i64 (D : Nat), .slice AP np cp] 38)
              have S5 := hSb.alloc (.cells #[.slice AS ns cs, .int .i64 (N : Nat), .int .i64 (D : Nat), .int .i64 (D : Nat), .slice AP np cp] 38)
              have P5 := hPb.alloc (.cells #[.slice AS ns cs, .int .i64 (N : Nat), .int .i64 (D : Nat), .int .i64 (D : Nat), .slice AP np cp] 38)
              have D5 := Blk.new wb 38 #[.slice AS ns cs, .int .i64 (N : Nat), .int .i64 (D : Nat), .int .i64 (D : Nat), .slice AP np cp]
              have B5 := (Br.trans (hbb.mono Br.size)).alloc (Br.trans (hbb.mono Br.size)).size (.cells #[.slice AS ns cs, .int .i64 (N : Nat), .int .i64 (D : Nat), .int .i64 (D : Nat), .slice AP np cp] 38)
              clear Gr Er Yr Qr Kr Br hTr hrK hSb hPb hbb hfS hfP hns hnp hDB kb d0 d1
              generalize wb.alloc (.cells #[.slice AS ns cs, .int .i64 (N : Nat), .int .i64 (D : Nat), .int .i64 (D : Nat), .slice AP np cp] 38) = W5 at *
              generalize wb.heap.size = gb at *
              have q0 := Blk.cell D5 0
              have q1 := Blk.cell D5 1
              have q2 := Blk.cell D5 2
              have q3 := Blk.cell D5 3
              have q4 := Blk.cell D5 4
              simp at q0 q1 q2 q3 q4
              go_upto_region 29 with fail
              have hpre : Hid (∀ w' : World, (W5.alloc (.cells #[.slice AS ns cs, .int .i64 (N : Nat), .int .i64 (D : Nat), .int .i64 (D : Nat), .slice AP np cp] 38)).grownBy w' (some w1.heap.size) → W5.grownBy w' (some w1.heap.size)) := Lib.hid (fun w' h => grown_pre h)
              have K6 := K5.alloc (.cells #[.slice AS ns cs, .int .i64 (N : Nat), .int .i64 (D : Nat), .int .i64 (D : Nat), .slice AP np cp] 38)
              have G6 := G5.alloc (.cells #[.slice AS ns cs, .int .i64 (N : Nat), .int .i64 (D : Nat), .int .i64 (D : Nat), .slice AP np cp] 38)
              have C6 := Blk.new W5 38 #[.slice AS ns cs, .int .i64 (N : Nat), .int .i64 (D : Nat), .int .i64 (D : Nat), .slice AP np cp]
              have ngb : some gb ≠ some w1.heap.size := fun e => by injection e with e; have := hkb.out; omega
              have ngc : some W5.heap.size ≠ some w1.heap.size := fun e => by injection e with e; have := K5.lt; omega
              have hkc : Hid (w1.heap.size < W5.heap.size ∧ gb < W5.heap.size ∧ gg < W5.heap.size ∧ gs < W5.heap.size) := Lib.hid ⟨K5.lt, D5.lt, G5.lt, Y5.lt⟩
              have hc5 : Hid (W5.heap.size ≤ W5.heap.size) := Lib.hid (Nat.le_refl _)
              clear K5 q0 q1 q2 q3 q4
              generalize W5.alloc (.cells #[.slice AS ns cs, .int .i64 (N : Nat), .int .i64 (D : Nat), .int .i64 (D : Nat), .slice AP np cp] 38) = W6 at *
              obtain ⟨gc, hgc⟩ : ∃ gc, gc = W5.heap.size := ⟨_, rfl⟩
              rw [← hgc] at C6 ngc hkc hc5 ⊢
              replace hgc := Lib.hid hgc
              obtain ⟨d0, d1⟩ := blkG G6
              have km := Lib.hid (mkset_any w1.heap.size n W6 K6 (by omega))
              have hC6lt := C6.lt
              have hc60 := Blk.frozen C6 0
              go_upto_region 30 with (first
                | (go_at_call 20; (with_reducible refine km.out.mono ?_); intro e w7 hq; obtain ⟨xs, AX, nx, cx, rfl, hcx, hvx, hrx, hfx, K7, hg7⟩ := hq
                   have C7 := Blk.grown C6 hg7 ngc
                   have t0 := Blk.cell C7 0
                   have t1 := Blk.frozen C7 0)
                | fail)
              have hnx : nx ≤ 9 := by have := hrx.len; have := vld_length hvx; omega
              have hg8 : W5.grownBy (w7.setCell ⟨gc, 0, none⟩ (.slice AX nx cx)) (some w1.heap.size) := grown_set_new (hpre.out _ hg7) (p := ⟨gc, 0, none⟩) (Nat.le_of_eq hgc.out.symm) _
              have C8 : Blk (w7.setCell ⟨gc, 0, none⟩ (.slice AX nx cx)) gc 38 #[.slice AX nx cx, .int .i64 (N : Nat), .int .i64 (D : Nat), .int .i64 (D : Nat), .slice AP np cp] := Blk.set C7 0 (.slice AX nx cx)
              have X8 := RI.set hrx hfx 0 hC6lt (.slice AX nx cx)
              have G8 := Blk.grown G5 hg8 ngg
              have E8 := E5.kept hg8 hAk.out
              clear hg7 hrx C7 K7 G6 C6 K6 d0 d1 t0 t1 hc60 km hcx hpre
              generalize w7.setCell ⟨gc, 0, none⟩ (.slice AX nx cx) = w8 at *
              obtain ⟨d0, d1⟩ := blkG G8
              have c0 := Blk.cell C8 0
              simp at c0
              have kd := rdensity_any A m c n es AX nx cx xs w8 E8 (by omega) hz.out (by omega) X8 (by omega)
              obtain ⟨a, ha⟩ : ∃ a : Int, a = (dseN es xs (meetL xs (rng n)).length : Int) := ⟨_, rfl⟩
              obtain ⟨b, hb⟩ : ∃ b : Int, b = (dseD es xs (meetL xs (rng n)).length : Int) := ⟨_, rfl⟩
              rw [← ha, ← hb] at kd
              clear ha hb
              replace kd := Lib.hid kd
              go_upto_region 31 with (first
                | (go_at_call 21; (with_reducible refine kd.out.mono ?_); rintro e w9 ⟨rfl, hb9⟩
                   have C9 := C8.below hb9 C8.lt
                   have t1 := Blk.frozen C9 1
                   have t2 := Blk.frozen C9 2
                   have u1 := Blk.cell C9 1
                   have u2 := Blk.cell C9 2
                   simp at u1 u2)
                | fail)
              have hg9 : W5.grownBy w9 (some w1.heap.size) := grown_below hg8 hb9 hg8.size
              have hg10 : W5.grownBy ((w9.setCell ⟨gc, 1, none⟩ (.int .i64 a)).setCell ⟨gc, 2, none⟩ (.int .i64 b)) (some w1.heap.size) := grown_set_new (grown_set_new hg9 (p := ⟨gc, 1, none⟩) (Nat.le_of_eq hgc.out.symm) _) (p := ⟨gc, 2, none⟩) (Nat.le_of_eq hgc.out.symm) _
              have C10 : Blk ((w9.setCell ⟨gc, 1, none⟩ (.int .i64 a)).setCell ⟨gc, 2, none⟩ (.int .i64 b)) gc 38 #[.slice AX nx cx, .int .i64 a, .int .i64 b, .int .i64 (D : Nat), .slice AP np cp] := Blk.set (Blk.set C9 1 (.int .i64 a)) 2 (.int .i64 b)
              have X10 := RI.set (RI.set (X8.below hb9 (Nat.le_refl _)) hfx 1 hC6lt (.int .i64 a)) hfx 2 hC6lt (.int .i64 b)
              have G10 := Blk.grown G5 hg10 ngg
              have Y10 := Blk.grown Y5 hg10 ngs
              have D10 := Blk.grown D5 hg10 ngb
              have E10 := E5.kept hg10 hAk.out
              have Q10 := Q5.kept hg10 hA1k.out
              have S10 := S5.kept hg10 hASk.out
              have P10 := P5.kept hg10 hAPk.out
              have B10 := B5.grown hg10 B5.size (fun k hk => by injection hk with hk; omega)
              clear hg10 hg9 hg8 hb9 kd C9 t1 t2 u1 u2 c0 C8 X8 G8 E8 d0 d1 G5 Y5 D5 E5 Q5 S5 P5 B5 hfx hC6lt
              generalize (w9.setCell ⟨gc, 1, none⟩ (.int .i64 a)).setCell ⟨gc, 2, none⟩ (.int .i64 b) = w10 at *
              have q0 := Blk.cell D10 0
              have q1 := Blk.cell D10 1
              have q2 := Blk.cell D10 2
              have q3 := Blk.cell D10 3
              have q4 := Blk.cell D10 4
              simp at q0 q1 q2 q3 q4
              go_upto_region 32 with fail
              have Y11 := Y10.alloc (.cells #[.slice AS ns cs, .int .i64 (N : Nat), .int .i64 (D : Nat), .int .i64 (D : Nat), .slice AP np cp] 38)
              have F11 := Blk.new w10 38 #[.slice AS ns cs, .int .i64 (N : Nat), .int .i64 (D : Nat), .int .i64 (D : Nat), .slice AP np cp]
              obtain ⟨y0, y1⟩ := blkS Y11
              have t3 := Blk.frozen F11 3
              have t4 := Blk.frozen F11 4
              have u3 := Blk.cell F11 3
              have u4 := Blk.cell F11 4
              simp at u3 u4
              have B12 : Below w10.heap.size w10 (w10.alloc (.cells #[.slice AS ns cs, .int .i64 (N : Nat), .int .i64 (D : Nat), .int .i64 den, .slice A1 m c1] 38)) := (Below.refl _ w10).alloc (Nat.le_refl _) _
              have F12 := Blk.new w10 38 #[.slice AS ns cs, .int .i64 (N : Nat), .int .i64 (D : Nat), .int .i64 den, .slice A1 m c1]
              clear q0 q1 q2 q3 q4
              go_upto_region 33 with fail
              have C12 := C10.below B12 C10.lt
              have D12 := D10.below B12 D10.lt
              have G12 := G10.below B12 G10.lt
              have E12 := E10.below B12 (Nat.le_refl _)
              have Q12 := Q10.below B12 (Nat.le_refl _)
              have S12 := S10.below B12 (Nat.le_refl _)
              have P12 := P10.below B12 (Nat.le_refl _)
              have X12 := X10.below B12 (Nat.le_refl _)
              have BW12 := B10.trans (B12.mono B10.size)
              have R12 := R0.below BW12 R0.lt
              have SR12 := S1.below BW12 (Nat.le_refl _)
              have PR12 := P1.below BW12 (Nat.le_refl _)
              clear Y11 F11 y0 y1 t3 t4 u3 u4 B12 Y10 C10 D10 G10 E10 Q10 S10 P10 X10 B10
              generalize w10.alloc (.cells #[.slice AS ns cs, .int .i64 (N : Nat), .int .i64 (D : Nat), .int .i64 den, .slice A1 m c1] 38) = w12 at *
              generalize w10.heap.size = gf at *
              have a0 := Blk.cell D12 0
              have a1 := Blk.cell D12 1
              have a2 := Blk.cell D12 2
              have a3 := Blk.cell D12 3
              have a4 := Blk.cell D12 4
              have b0 := Blk.cell C12 0
              have b1 := Blk.cell C12 1
              have b2 := Blk.cell C12 2
              have b3 := Blk.cell C12 3
              have b4 := Blk.cell C12 4
              have k0 := Blk.cell F12 0
              have k1 := Blk.cell F12 1
              have k2 := Blk.cell F12 2
              have k3 := Blk.cell F12 3
              have k4 := Blk.cell F12 4
              have d0 := Blk.cell R12 0
              have d1 := Blk.cell R12 1
              have d2 := Blk.cell R12 2
              have d3 := Blk.cell R12 3
              have d4 := Blk.cell R12 4
              simp at a0 a1 a2 a3 a4 b0 b1 b2 b3 b4 k0 k1 k2 k3 k4 d0 d1 d2 d3 d4
              have hDL : DNL (w12.alloc (.cells #[.slice AS ns cs, .int .i64 (N : Nat), .int .i64 (D : Nat), .int .i64 (D : Nat), .slice AP np cp, .slice AX nx cx, .int .i64 a, .int .i64 b, .int .i64 (D : Nat), .slice AP np cp, .slice AS ns cs, .int .i64 (N : Nat), .int .i64 (D : Nat), .int .i64 den, .slice A1 m c1, .slice AS0 nS0 cS0, .int .i64 NR, .int .i64 DR, .int .i64 dR, .slice AP0 nP0 cP0] 38)) w12.heap.size 4 := by
                have hBk := Blk.new w12 38 #[.slice AS ns cs, .int .i64 (N : Nat), .int .i64 (D : Nat), .int .i64 (D : Nat), .slice AP np cp, .slice AX nx cx, .int .i64 a, .int .i64 b, .int .i64 (D : Nat), .slice AP np cp, .slice AS ns cs, .int .i64 (N : Nat), .int .i64 (D : Nat), .int .i64 den, .slice A1 m c1, .slice AS0 nS0 cS0, .int .i64 NR, .int .i64 DR, .int .i64 dR, .slice AP0 nP0 cP0]
                intro j hj
                have hjj : j = 0 ∨ j = 1 ∨ j = 2 ∨ j = 3 := by omega
                rcases hjj with rfl | rfl | rfl | rfl
                · exact ⟨AS, ns, cs, _, N, D, D, AP, np, cp, _, hBk.cell 0, hBk.cell 1, hBk.cell 2, hBk.cell 3, hBk.cell 4, S12.alloc _, by omega, P12.alloc _, by omega⟩
                · exact ⟨AX, nx, cx, _, a, b, D, AP, np, cp, _, hBk.cell 5, hBk.cell 6, hBk.cell 7, hBk.cell 8, hBk.cell 9, X12.alloc _, by omega, P12.alloc _, by omega⟩
                · exact ⟨AS, ns, cs, _, N, D, den, A1, m, c1, _, hBk.cell 10, hBk.cell 11, hBk.cell 12, hBk.cell 13, hBk.cell 14, S12.alloc _, by omega, Q12.alloc _, by omega⟩
                · exact ⟨AS0, nS0, cS0, _, NR, DR, dR, AP0, nP0, cP0, _, hBk.cell 15, hBk.cell 16, hBk.cell 17, hBk.cell 18, hBk.cell 19, SR12.alloc _, by omega, PR12.alloc _, by omega⟩
              go_upto_region 34 with fail
              have GV := G12.alloc (.cells #[.slice AS ns cs, .int .i64 (N : Nat), .int .i64 (D : Nat), .int .i64 (D : Nat), .slice AP np cp, .slice AX nx cx, .int .i64 a, .int .i64 b, .int .i64 (D : Nat), .slice AP np cp, .slice AS ns cs, .int .i64 (N : Nat), .int .i64 (D : Nat), .int .i64 den, .slice A1 m c1, .slice AS0 nS0 cS0, .int .i64 NR, .int .i64 DR, .int .i64 dR, .slice AP0 nP0 cP0] 38)
              have EV := E12.alloc (.cells #[.slice AS ns cs, .int .i64 (N : Nat), .int .i64 (D : Nat), .int .i64 (D : Nat), .slice AP np cp, .slice AX nx cx, .int .i64 a, .int .i64 b, .int .i64 (D : Nat), .slice AP np cp, .slice AS ns cs, .int .i64 (N : Nat), .int .i64 (D : Nat), .int .i64 den, .slice A1 m c1, .slice AS0 nS0 cS0, .int .i64 NR, .int .i64 DR, .int .i64 dR, .slice AP0 nP0 cP0] 38)
              have BV := BW12.alloc BW12.size (.cells #[.slice AS ns cs, .int .i64 (N : Nat), .int .i64 (D : Nat), .int .i64 (D : Nat), .slice AP np cp, .slice AX nx cx, .int .i64 a, .int .i64 b, .int .i64 (D : Nat), .slice AP np cp, .slice AS ns cs, .int .i64 (N : Nat), .int .i64 (D : Nat), .int .i64 den, .slice A1 m c1, .slice AS0 nS0 cS0, .int .i64 NR, .int .i64 DR, .int .i64 dR, .slice AP0 nP0 cP0] 38)
              have hgv : w12.heap.size < (w12.alloc (.cells #[.slice AS ns cs, .int .i64 (N : Nat), .int .i64 (D : Nat), .int .i64 (D : Nat), .slice AP np cp, .slice AX nx cx, .int .i64 a, .int .i64 b, .int .i64 (D : Nat), .slice AP np cp, .slice AS ns cs, .int .i64 (N : Nat), .int .i64 (D : Nat), .int .i64 den, .slice A1 m c1, .slice AS0 nS0 cS0, .int .i64 NR, .int .i64 DR, .int .i64 dR, .slice AP0 nP0 cP0] 38)).heap.size := by simp
              clear C12 D12 F12 R12 G12 E12 Q12 S12 P12 X12 SR12 PR12 BW12 a0 a1 a2 a3 a4 b0 b1 b2 b3 b4 k0 k1 k2 k3 k4 d0 d1 d2 d3 d4
              generalize w12.alloc (.cells #[.slice AS ns cs, .int .i64 (N : Nat), .int .i64 (D : Nat), .int .i64 (D : Nat), .slice AP np cp, .slice AX nx cx, .int .i64 a, .int .i64 b, .int .i64 (D : Nat), .slice AP np cp, .slice AS ns cs, .int .i64 (N : Nat), .int .i64 (D : Nat), .int .i64 den, .slice A1 m c1, .slice AS0 nS0 cS0, .int .i64 NR, .int .i64 DR, .int .i64 dR, .slice AP0 nP0 cP0] 38) = V at *
              generalize w12.heap.size = gv at *
              replace hDL := Lib.hid hDL
              go_loopw [169] (fun i wr => ∃ k : Nat, k ≤ 4 ∧ i = .int .i64 (k : Nat) ∧ Below V.heap.size V wr) (fun i _ => 4 - (intOf i).toNat)
              case atStart => exact ⟨0, Nat.zero_le _, rfl, Below.refl _ _⟩
              case round =>
                obtain ⟨k, hk, rfl, hb⟩ := hrel
                by_cases hlt : k < 4
                · have i0 : (k : Int) < 4 := by omega
                  obtain ⟨Ax, kx, cx', lx, Nx, Dx, ex, Px, px, pc, psx, y0, y1, y2, y3, y4, hXS, hkx, hXP, hpx⟩ := (hDL.out.below hgv hb) k hlt
                  have Gr := GV.below hb GV.lt
                  have Er := EV.below hb (Nat.le_refl _)
                  clear GV EV
                  go_upto_region 36 with fail
                  have Z6 := Blk.new wr 38 #[.slice Ax kx cx', .int .i64 Nx, .int .i64 Dx, .int .i64 ex, .slice Px px pc]
                  have G6 := Gr.alloc (.cells #[.slice Ax kx cx', .int .i64 Nx, .int .i64 Dx, .int .i64 ex, .slice Px px pc] 38)
                  have E6 := Er.alloc (.cells #[.slice Ax kx cx', .int .i64 Nx, .int .i64 Dx, .int .i64 ex, .slice Px px pc] 38)
                  have X6 := hXS.alloc (.cells #[.slice Ax kx cx', .int .i64 Nx, .int .i64 Dx, .int .i64 ex, .slice Px px pc] 38)
                  have P6 := hXP.alloc (.cells #[.slice Ax kx cx', .int .i64 Nx, .int .i64 Dx, .int .i64 ex, .slice Px px pc] 38)
                  have b6 := hb.alloc hb.size (.cells #[.slice Ax kx cx', .int .i64 Nx, .int .i64 Dx, .int .i64 ex, .slice Px px pc] 38)
                  clear y0 y1 y2 y3 y4 Gr Er hb hXS hXP
                  generalize wr.alloc (.cells #[.slice Ax kx cx', .int .i64 Nx, .int .i64 Dx, .int .i64 ex, .slice Px px pc] 38) = w6 at *
                  generalize wr.heap.size = gx at *
                  have hG6 := G6.lt
                  have hZ6 := Z6.lt
                  obtain ⟨g0, g1⟩ := blkG G6
                  have z0 := Blk.cell Z6 0
                  have z1 := Blk.cell Z6 1
                  have z2 := Blk.cell Z6 2
                  have z3 := Blk.cell Z6 3
                  have z4 := Blk.cell Z6 4
                  simp at z0 z1 z2 z3 z4
                  have kS : Hid (∀ w' : World, Below w6.heap.size w6 w' → w'.cell? ⟨gg, 0, none⟩ = some (.int .i64 (n : Nat)) ∧ w'.cell? ⟨gg, 1, none⟩ = some (.slice A m c) ∧ w'.cell? ⟨gx, 0, none⟩ = some (.slice Ax kx cx') ∧ w'.cell? ⟨gx, 1, none⟩ = some (.int .i64 Nx) ∧ w'.cell? ⟨gx, 2, none⟩ = some (.int .i64 Dx) ∧ w'.cell? ⟨gx, 3, none⟩ = some (.int .i64 ex) ∧ w'.cell? ⟨gx, 4, none⟩ = some (.slice Px px pc)) := Lib.hid (fun w' hb => ⟨(hb.cell (p := ⟨gg, 0, none⟩) hG6).trans g0, (hb.cell (p := ⟨gg, 1, none⟩) hG6).trans g1, (hb.cell (p := ⟨gx, 0, none⟩) hZ6).trans z0, (hb.cell (p := ⟨gx, 1, none⟩) hZ6).trans z1, (hb.cell (p := ⟨gx, 2, none⟩) hZ6).trans z2, (hb.cell (p := ⟨gx, 3, none⟩) hZ6).trans z3, (hb.cell (p := ⟨gx, 4, none⟩) hZ6).trans z4⟩)
                  have BN0 : Below w6.heap.size w6 w6.drew := (Below.refl _ w6).drew
                  have kA0 := fun w' (hb : Below w6.heap.size w6 w') => dcheck_any A m c n es Ax kx cx' lx Nx Dx ex Px px pc psx w' (E6.below hb (Nat.le_refl _)) (by omega) hz.out (by omega) (X6.below hb (Nat.le_refl _)) (by omega) (P6.below hb (Nat.le_refl _)) (by omega)
                  have kB0 := fun w' (hb : Below w6.heap.size w6 w') => rdcheck_any A m c n es Ax kx cx' lx Nx Dx ex Px px pc psx w' (E6.below hb (Nat.le_refl _)) (by omega) hz.out (by omega) (X6.below hb (Nat.le_refl _)) (by omega) (P6.below hb (Nat.le_refl _)) (by omega)
                  obtain ⟨v, hv⟩ : ∃ v : Int, v = dchk n es m lx Nx Dx ex psx := ⟨_, rfl⟩
                  rw [← hv] at kA0 kB0
                  clear hv
                  have kA := Lib.hid kA0
                  have kB := Lib.hid kB0
                  have hvv : (v == v) = true := beq_self_eq_true v
                  clear kA0 kB0 G6 Z6 E6 X6 P6 g0 g1 z0 z1 z2 z3 z4 hDL
                  go_loud (go_region_held3 (fun w' => w'.cell? ⟨gg, 0, none⟩ = some (.int .i64 (n : Nat)) ∧ w'.cell? ⟨gg, 1, none⟩ = some (.slice A m c) ∧ w'.cell? ⟨gx, 0, none⟩ = some (.slice Ax kx cx') ∧ w'.cell? ⟨gx, 1, none⟩ = some (.int .i64 Nx) ∧ w'.cell? ⟨gx, 2, none⟩ = some (.int .i64 Dx) ∧ w'.cell? ⟨gx, 3, none⟩ = some (.int .i64 ex) ∧ w'.cell? ⟨gx, 4, none⟩ = some (.slice Px px pc))
                    ((first | (with_reducible exact kS.out _ BN0) | (with_reducible exact kS.out _ BNa) | (with_reducible exact kS.out _ BNb) | (with_reducible exact kS.out _ BNc) | (with_reducible exact kS.out _ BNd) | fail))
                    ((first
                      | (go_at_call 22; (with_reducible refine (kA.out _ BN0).mono ?_); rintro e w7 ⟨rfl, hb7⟩
                         have BNa := BN0.trans (hb7.mono BN0.size))
                      | (go_at_call 12; (with_reducible refine (kB.out _ BN0).mono ?_); rintro e w7 ⟨rfl, hb7⟩
                         have BNb := BN0.trans (hb7.mono BN0.size))
                      | (go_at_call 12; (with_reducible refine (kB.out _ BNa).mono ?_); rintro e w8 ⟨rfl, hb8⟩
                         have BNc := BNa.trans (hb8.mono BNa.size))
                      | (go_at_call 22; (with_reducible refine (kA.out _ BNb).mono ?_); rintro e w8 ⟨rfl, hb8⟩
                         have BNd := BNb.trans (hb8.mono BNb.size))
                      | fail)))
                  all_goals go_wp2_with fail
                  all_goals go_roundw
                  case rel => exact ⟨k + 1, by omega, by go_num, b6.trans (BNc.mono b6.size)⟩
                  case measure => simp [intOf]; omega
                · obtain rfl : k = 4 := by omega
                  have hBV := BV.trans (hb.mono BV.size)
                  have ka := Lib.hid (awake19_any wr (hT.keep (bW.trans (hBV.mono bW.size))))
                  clear GV EV BV hb hDL hgv hk hlt
                  go_wp2_with (first
                    | (go_at_call 6; (with_reducible refine ka.out.mono ?_); rintro e we ⟨rfl, hbe⟩)
                    | fail)
                  go_ret
                  exact ⟨rfl, bW.trans ((hBV.trans (hbe.mono hBV.size)).mono bW.size)⟩
end Go.Proofs.YticekkjambkifaaGreatDoor.Fl
