/- Printed by merge.py from PlxW, PlxX, PlxY, PlxZ. -/
import Derived.Test.YtfefginhlliccaaDoorPlxU
import Derived.Deep.DeepCutAuto
import Derived.StillTail
import Derived.StillTailTactics
import Derived.OwnWalk
/- Reference 28: Is, Maximal, for any graph and list. -/
set_option linter.unusedVariables false
set_option linter.unusedSimpArgs false
namespace Go.Proofs.YtfefginhlliccaaDoor.Pl
open Go.RowKit Go.Shelf CoBit CoCli Go.Proofs.YtfefginhlliccaaDoor

set_option maxHeartbeats 1000000 in
theorem union_any (A A' : Option Addr) (n c n' c' : Nat) (xs ys : List Int) (w : World) (h : RI w A n xs) (hn : n ≤ 1099511627) (h' : RI w A' n' ys) (hn' : n' ≤ 1099511627) :
    Calls Tryd.prog 60 #[.slice A n c, .slice A' n' c'] w (RetI w (ofL (xs ++ ys))) := by
  have hl := Lib.hid h.len
  have hl' := Lib.hid h'.len
  go_enter Tryd.func60, Tryd.ntmps60
  go_wp2_with (first
    | (at_builtin; refine wpList_cat (B := w.heap.size) (ys := []) rfl _ _ rfl rfl rfl OI.nil_ h (by simp; omega) (Nat.le_refl _) ?_; intro v1 w1 ho1 hb1 hg1
       have hr1 := h'.below hb1 (Nat.le_refl _))
    | (at_builtin; refine wpList_cat (B := w.heap.size) rfl _ _ rfl rfl rfl ho1 hr1 (by simp; have := hl.out; omega) (hb1.size) ?_; intro v2 w2 ho2 hb2 hg2
       obtain ⟨A2, n2, c2, hv2, hn2, hc2, -, hr2⟩ := ho2.form
       have hn2' : n2 ≤ 1099511627776 := by rw [hn2]; simp; have := hl.out; have := hl'.out; omega
       replace hn2 := Lib.hid hn2
       subst hv2
       have hB2 : Below w.heap.size w w2 := hb1.trans hb2
       have ko := Lib.hid (of_any A2 n2 c2 _ w2 hr2 hn2'))
    | (go_at_call 42; refine ko.out.mono ?_; rintro e w3 ⟨A3, n3, c3, rfl, hc3, hr3, hb3, hf3⟩)
    | fail)
  go_ret
  exact ⟨_, _, _, rfl, hc3, by simpa using hr3, hB2.trans (hb3.mono hB2.size), hf3.mono hB2.size⟩

theorem dgs_len (a : Nat → Nat → Bool) (S : List Nat) (v : Nat) : dgs a S v ≤ S.length := List.length_filter_le _ _
theorem meet_dgs {n : Nat} {es : List (Int × Int)} (hc : chkG n es = 0) {S : List Nat} (hs : S.Pairwise (· < ·)) (hn : ∀ x ∈ S, x < n) (u : Nat) : (meetL (nbG n es u) (nt S)).length = dgs (ad (rowsL n es)) S u := by
  rw [meet_dg, dgs_dg hc (by have := (chkG_zero hc).2.1; omega) hs hn]
set_option maxRecDepth 100000 in
set_option maxHeartbeats 4000000 in
theorem r28is_any (A : Option Addr) (m c : Nat) (n : Int) (es : List (Int × Int)) (A2 : Option Addr) (m2 c2 : Nat) (xs : List Int) (k : Int) (w : World) (hE : RE w A m es) (hm : m ≤ 274877906944) (h2 : RI w A2 m2 xs) (hm2 : m2 ≤ 1099511627776) :
    Calls Tryd.prog 32 #[.agg #[.int .i64 n, .slice A m c], .slice A2 m2 c2, .int .i64 k] w fun e w' => e = .returned (.bool (isB n es xs k)) ∧ Below w.heap.size w w' := by
  have kck := fun w h => rcheck_any A m c n es w h (by omega)
  have kva := fun w h => valid_any A2 m2 c2 xs n w h (by omega)
  have hB1 : Below w.heap.size w (w.alloc (.cells #[.int .i64 n, .slice A m c] 27)) := (Below.refl _ w).alloc (Nat.le_refl _) _
  have hlt : w.heap.size < (w.alloc (.cells #[.int .i64 n, .slice A m c] 27)).heap.size := by simp
  by_cases h0 : chkG n es = 0
  · rw [h0] at kck
    by_cases h3 : Vld xs n
    · rw [decide_eq_true h3] at kva
      by_cases h1 : 1 ≤ k ∧ k ≤ 3
      · obtain ⟨N, rfl⟩ := Int.eq_ofNat_of_zero_le (chkG_zero h0).1
        obtain ⟨kk, rfl⟩ := Int.eq_ofNat_of_zero_le (show 0 ≤ k by omega)
        have hN : N ≤ 64 := by have := (chkG_zero h0).2.1; omega
        obtain ⟨e1, e2, e3⟩ := nt_toNat h3
        have hf : isB N es xs kk = decide (plx (ad (rowsL N es)) kk (xs.map Int.toNat)) := by unfold isB; rw [decide_eq_true ⟨h0, h1.1, h1.2, h3⟩]; rfl
        rw [hf]
        clear hf h3
        generalize xs.map Int.toNat = S at *
        subst e1
        have hSl : S.length = m2 := by have := h2.len; rw [nt_length] at this; exact this
        have hm64 : m2 ≤ 64 := by have := len_le e2 e3; omega
        have q1 : ¬ (kk : Int) < 1 := by omega
        have q2 : ¬ 3 < (kk : Int) := by omega
        have hw1 : IntKind.i64.wrap ((m2 : Int) - (kk : Int)) = (m2 : Int) - (kk : Int) := IntWalk.i64_in _ ⟨by omega, by omega⟩
        have hw2 : wrap64 ((m2 : Int) - (kk : Int)) = (m2 : Int) - (kk : Int) := by unfold wrap64; omega
        have hmd := Lib.hid (fun u => meet_dgs h0 e2 e3 u)
        have kne := fun u w h => neigh_any A m c N es u w h hm
        have kme := fun A7 n7 c7 u w (h7 : RI w A7 n7 (nbG N es u)) hn7 (h8 : RI w A2 m2 (nt S)) => meet_any A7 A2 n7 c7 m2 c2 (nbG N es u) (nt S) w h7 hn7 h8 (by omega)
        have hnl := Lib.hid (fun u => nbG_length (N : Int) es u)
        have hesl := Lib.hid hE.len
        replace kck := Lib.hid kck
        replace kva := Lib.hid kva
        replace kne := Lib.hid kne
        replace kme := Lib.hid kme
        replace hSl := Lib.hid hSl
        clear h0 h1 hN e2 e3
        go_enter Tryd.func32, Tryd.ntmps32
        go_wp2_with (first
          | (go_at_call 28; refine (kck.out _ (hE.alloc _)).mono ?_; rintro e w1 ⟨rfl, hb1⟩
             have bg1 := Blk.below (Blk.new w 27 #[.int .i64 N, .slice A m c]) hb1 hlt
             obtain ⟨g0, g1⟩ := blkG bg1
             have hW1 : Below w.heap.size w w1 := hB1.trans (hb1.mono (by simp))
             have hE1 := hE.below hW1 (Nat.le_refl _)
             have hS1 := h2.below hW1 (Nat.le_refl _))
          | (go_at_call 51; refine (kva.out _ hS1).mono ?_; rintro e w2 ⟨rfl, hw⟩; obtain rfl := hw)
          | fail)
        have hlt1 := bg1.lt
        clear hb1 kck kva g0 g1 hB1 hlt h2 hE
        go_loopw [7] (fun i wr => ∃ k1 : Nat, k1 ≤ m2 ∧ i = .int .i64 k1 ∧ Hid (∀ j, j < k1 → S.length ≤ dgs (ad (rowsL N es)) S (S.getD j 0) + kk) ∧ Below w1.heap.size w1 wr) (fun i _ => m2 - (intOf i).toNat)
        case atStart => exact ⟨0, Nat.zero_le _, rfl, Lib.hid (fun a h => absurd h (by omega)), Below.refl _ _⟩
        case round =>
          obtain ⟨k1, hk1, rfl, hA, hbr⟩ := hrel
          by_cases hlt1' : k1 < m2
          · have i1 : (k1 : Int) < (m2 : Int) := by omega
            have hr6 := hS1.below hbr (Nat.le_refl _)
            obtain ⟨ad5, y2, rfl, hy2, cy2⟩ := hr6.get hlt1'
            obtain ⟨u, hu, rfl⟩ := nt_get hy2.out
            obtain ⟨e2, hue⟩ := List.getElem?_eq_some_iff.1 hu
            have hgu : Hid (S.getD k1 0 = u) := Lib.hid (by rw [getD_lt e2, hue])
            have huS : u ∈ S := List.mem_of_getElem? hu
            have hG6 := bg1.below hbr hlt1
            obtain ⟨d0, d1⟩ := blkG hG6
            have hE6 := hE1.below hbr (Nat.le_refl _)
            have had5 : ad5.block < wr.heap.size := RI.block_lt' hr6 (by omega) ad5 rfl
            have hgl := hG6.lt
            have hmu := Lib.hid (hmd.out u)
            have hdl := dgs_len (ad (rowsL N es)) S u
            have hnu : (nbG N es u).length ≤ 2 * m := by have := hnl.out u; have := hesl.out; omega
            have kn := fun w h => kne.out u w h
            have km := fun A7 n7 c7 w h7 hn7 h8 => kme.out A7 n7 c7 u w h7 hn7 h8
            generalize dgs (ad (rowsL N es)) S u = D at *
            replace hnu := Lib.hid hnu
            replace kn := Lib.hid kn
            replace km := Lib.hid km
            have hrow := Lib.hid hr6
            clear hy2 hu e2 hue hr6
            by_cases hD : S.length ≤ D + kk
            · have hA3 : Hid (∀ j, j < k1 + 1 → S.length ≤ dgs (ad (rowsL N es)) S (S.getD j 0) + kk) := Lib.hid fun j h => by
                by_cases ha : j = k1
                · rw [ha, hgu.out]; exact Nat.le_trans hD (by have := hmu.out; have h3 := hmd.out u; omega)
                · exact hA.out j (by omega)
              have hD' := Lib.hid hD
              clear hD hdl
              go_upto_region 6 with fail
              go_region_held3 (fun w' => w'.cell? ⟨w.heap.size, 0, none⟩ = some (.int .i64 N) ∧ w'.cell? ⟨w.heap.size, 1, none⟩ = some (.slice A m c) ∧ w'.cell? (ad5.add k1) = some (.int .i64 u))
                ((first | (exact ⟨(hbg.cell (p := ⟨w.heap.size, 0, none⟩) hgl).trans d0, (hbg.cell (p := ⟨w.heap.size, 1, none⟩) hgl).trans d1, (hbg.cell (p := ad5.add k1) (by rw [block_of_add]; exact had5)).trans cy2⟩) | (exact ⟨(hbf.cell (p := ⟨w.heap.size, 0, none⟩) hgl).trans d0, (hbf.cell (p := ⟨w.heap.size, 1, none⟩) hgl).trans d1, (hbf.cell (p := ad5.add k1) (by rw [block_of_add]; exact had5)).trans cy2⟩) | go_keep))
                ((first
                  | (go_at_call 44; refine (kn.out _ (by first | exact hE6 | exact hE6.drewN _)).mono ?_; rintro e wf ⟨A7, n7, c7, rfl, hc7, hr7, hb7, hf7⟩
                     have hbf : Below wr.heap.size wr wf := ((Below.refl wr.heap.size wr).drew).trans hb7
                     have hrf := hrow.out.below hbf (Nat.le_refl _)
                     have hn7 : n7 ≤ 1099511627776 := by have := hr7.len; have := hnu.out; omega)
                  | (go_at_call 14; refine (km.out A7 n7 c7 _ hr7 hn7 hrf).mono ?_; rintro e wg ⟨A8, n8, c8, rfl, hc8, hr8, hb8, hf8⟩
                     have hbg : Below wr.heap.size wr wg := hbf.trans (hb8.mono hbf.size)
                     have q5 : ¬ (n8 : Int) < (m2 : Int) - (kk : Int) := by have h1 := hr8.len; have h2 := hmu.out; have h3 := hD'.out; have h4 := hSl.out; omega)
                  | fail))
              all_goals
                go_wp2_with fail
                go_roundw
                case rel => exact ⟨k1 + 1, by omega, by go_num, hA3, hbr.trans (hbg.mono hbr.size)⟩
                case measure => simp [intOf]; omega
            · have hno : Hid (¬ plx (ad (rowsL N es)) kk S) := Lib.hid fun h => hD (by have := h u huS; have h3 := hmd.out u; have h4 := hmu.out; omega)
              have hD' := Lib.hid hD
              clear hD hdl
              go_upto_region 6 with fail
              go_region_held3 (fun w' => w'.cell? ⟨w.heap.size, 0, none⟩ = some (.int .i64 N) ∧ w'.cell? ⟨w.heap.size, 1, none⟩ = some (.slice A m c) ∧ w'.cell? (ad5.add k1) = some (.int .i64 u))
                ((first | (exact ⟨(hbg.cell (p := ⟨w.heap.size, 0, none⟩) hgl).trans d0, (hbg.cell (p := ⟨w.heap.size, 1, none⟩) hgl).trans d1, (hbg.cell (p := ad5.add k1) (by rw [block_of_add]; exact had5)).trans cy2⟩) | (exact ⟨(hbf.cell (p := ⟨w.heap.size, 0, none⟩) hgl).trans d0, (hbf.cell (p := ⟨w.heap.size, 1, none⟩) hgl).trans d1, (hbf.cell (p := ad5.add k1) (by rw [block_of_add]; exact had5)).trans cy2⟩) | go_keep))
                ((first
                  | (go_at_call 44; refine (kn.out _ (by first | exact hE6 | exact hE6.drewN _)).mono ?_; rintro e wf ⟨A7, n7, c7, rfl, hc7, hr7, hb7, hf7⟩
                     have hbf : Below wr.heap.size wr wf := ((Below.refl wr.heap.size wr).drew).trans hb7
                     have hrf := hrow.out.below hbf (Nat.le_refl _)
                     have hn7 : n7 ≤ 1099511627776 := by have := hr7.len; have := hnu.out; omega)
                  | (go_at_call 14; refine (km.out A7 n7 c7 _ hr7 hn7 hrf).mono ?_; rintro e wg ⟨A8, n8, c8, rfl, hc8, hr8, hb8, hf8⟩
                     have hbg : Below wr.heap.size wr wg := hbf.trans (hb8.mono hbf.size)
                     have q5 : (n8 : Int) < (m2 : Int) - (kk : Int) := by have h1 := hr8.len; have h2 := hmu.out; have h3 := hD'.out; have h4 := hSl.out; omega)
                  | fail))
              all_goals
                go_wp2_with fail
                go_ret
                exact ⟨retBool (decide_eq_false hno.out).symm, hW1.trans ((hbr.trans (hbg.mono hbr.size)).mono hW1.size)⟩
          · have hyes : Hid (plx (ad (rowsL N es)) kk S) := Lib.hid fun u hu => by
              obtain ⟨a, ha, rfl⟩ := List.getElem_of_mem hu
              have h1 := hSl.out
              have := hA.out a (by omega)
              rwa [getD_lt ha] at this
            have i1 : ¬ (k1 : Int) < (m2 : Int) := by omega
            go_wp2_with fail
            go_ret
            exact ⟨retBool (decide_eq_true hyes.out).symm, hW1.trans (hbr.mono hW1.size)⟩
      · rw [isB_no (fun h => h1 ⟨h.2.1, h.2.2.1⟩)]
        replace kck := Lib.hid kck
        replace kva := Lib.hid kva
        clear h0 h3
        have hcase : (k < 1) ∨ (¬ k < 1 ∧ 3 < k) := by omega
        clear h1
        rcases hcase with q1 | ⟨q1, q2⟩
        all_goals
          go_enter Tryd.func32, Tryd.ntmps32
          go_wp2_with (first
            | (go_at_call 28; refine (kck.out _ (hE.alloc _)).mono ?_; rintro e w1 ⟨rfl, hb1⟩
               have bg1 := Blk.below (Blk.new w 27 #[.int .i64 n, .slice A m c]) hb1 hlt
               obtain ⟨g0, g1⟩ := blkG bg1
               have hW1 : Below w.heap.size w w1 := hB1.trans (hb1.mono (by simp))
               have hS1 := h2.below hW1 (Nat.le_refl _))
            | (go_at_call 51; refine (kva.out _ hS1).mono ?_; rintro e w2 ⟨rfl, hw⟩; obtain rfl := hw)
            | fail)
          go_ret
          exact ⟨rfl, hW1⟩
    · rw [isB_no (fun h => h3 h.2.2.2)]
      rw [decide_eq_false h3] at kva
      replace kck := Lib.hid kck
      replace kva := Lib.hid kva
      clear h0 h3
      go_enter Tryd.func32, Tryd.ntmps32
      go_wp2_with (first
        | (go_at_call 28; refine (kck.out _ (hE.alloc _)).mono ?_; rintro e w1 ⟨rfl, hb1⟩
           have bg1 := Blk.below (Blk.new w 27 #[.int .i64 n, .slice A m c]) hb1 hlt
           obtain ⟨g0, g1⟩ := blkG bg1
           have hW1 : Below w.heap.size w w1 := hB1.trans (hb1.mono (by simp))
           have hS1 := h2.below hW1 (Nat.le_refl _))
        | (go_at_call 51; refine (kva.out _ hS1).mono ?_; rintro e w2 ⟨rfl, hw⟩; obtain rfl := hw)
        | fail)
      go_ret
      exact ⟨rfl, hW1⟩
  · rw [isB_no (fun h => h0 h.1)]
    have hq : (chkG n es != 0) = true := by simpa using h0
    generalize chkG n es = z at *
    replace kck := Lib.hid kck
    clear h0 kva
    go_enter Tryd.func32, Tryd.ntmps32
    go_wp2_with (first
      | (go_at_call 28; refine (kck.out _ (hE.alloc _)).mono ?_; rintro e w1 ⟨rfl, hb1⟩
         have hW1 : Below w.heap.size w w1 := hB1.trans (hb1.mono (by simp)))
      | fail)
    go_ret
    exact ⟨rfl, hW1⟩
end Go.Proofs.YtfefginhlliccaaDoor.Pl

/- Reference 28: Maximal, for any graph and list. -/
set_option linter.unusedVariables false
set_option linter.unusedSimpArgs false
namespace Go.Proofs.YtfefginhlliccaaDoor.Pl
open Go.RowKit Go.Shelf CoBit CoCli Go.Proofs.YtfefginhlliccaaDoor

theorem isB_add {n : Nat} {es : List (Int × Int)} {q : Nat} (hc : chkG n es = 0) (hq : 1 ≤ q) (hq3 : q ≤ 3) {S : List Nat} (hs : S.Pairwise (· < ·)) (hn : ∀ x ∈ S, x < n) {v : Nat} (hv : v < n) (hvS : v ∉ S) :
    isB n es (ofL (nt S ++ [(v : Int)])) q = decide (plx (ad (rowsL n es)) q (v :: S)) := by
  have hV : Vld (ofL (nt S ++ [(v : Int)])) n := ⟨fun x hx => by
    rw [mem_of, List.mem_append, List.mem_singleton] at hx
    rcases hx with hx | rfl
    · exact (vld_nt hs hn).1 x hx
    · omega, of_sorted _⟩
  obtain ⟨e1, e2, e3⟩ := nt_toNat hV
  have hm : ∀ x, x ∈ (ofL (nt S ++ [(v : Int)])).map Int.toNat ↔ x ∈ v :: S := fun x => by
    rw [← mem_nt, e1, mem_of, List.mem_append, List.mem_singleton, mem_nt, List.mem_cons]
    constructor
    · rintro (h | h)
      · exact .inr h
      · exact .inl (by omega)
    · rintro (h | h)
      · exact .inr (by omega)
      · exact .inl h
  generalize (ofL (nt S ++ [(v : Int)])).map Int.toNat = T at *
  rw [← e1, isB_of hc hq hq3 e2 e3]
  have hp : T.Perm (v :: S) := (List.perm_ext_iff_of_nodup (e2.imp (fun h => Nat.ne_of_lt h)) (List.nodup_cons.2 ⟨hvS, hs.imp (fun h => Nat.ne_of_lt h)⟩)).2 hm
  exact decide_eq_decide.2 (plx_perm hp)
attribute [local irreducible] wpStill in
set_option maxRecDepth 100000 in
set_option maxHeartbeats 4000000 in
theorem r28max_any (A : Option Addr) (m c : Nat) (n : Int) (es : List (Int × Int)) (A2 : Option Addr) (m2 c2 : Nat) (xs : List Int) (k : Int) (w : World) (hE : RE w A m es) (hm : m ≤ 274877906944) (h2 : RI w A2 m2 xs) (hm2 : m2 ≤ 1099511627776) :
    Calls Tryd.prog 33 #[.agg #[.int .i64 n, .slice A m c], .slice A2 m2 c2, .int .i64 k] w fun e w' => e = .returned (.bool (maxB n es xs k)) ∧ Below w.heap.size w w' := by
  have kis := fun w h h2 => r28is_any A m c n es A2 m2 c2 xs k w h hm h2 hm2
  have hB1 : Below w.heap.size w (w.alloc (.cells #[.int .i64 n, .slice A m c] 27)) := (Below.refl _ w).alloc (Nat.le_refl _) _
  have hlt : w.heap.size < (w.alloc (.cells #[.int .i64 n, .slice A m c] 27)).heap.size := by simp
  cases hI : isB n es xs k with
  | false =>
    have hf : maxB n es xs k = false := by unfold maxB; rw [hI]; simp
    rw [hf]
    rw [hI] at kis
    replace kis := Lib.hid kis
    clear hI hf
    go_enter Tryd.func33, Tryd.ntmps33
    go_wp2_with (first
      | (go_at_call 32; refine (kis.out _ (hE.alloc _) (h2.alloc _)).mono ?_; rintro e w1 ⟨rfl, hb1⟩
         have hW1 : Below w.heap.size w w1 := hB1.trans (hb1.mono (by simp)))
      | fail)
    go_ret
    exact ⟨rfl, hW1⟩
  | true =>
    rw [hI] at kis
    by_cases h0 : m2 = 0
    · have hf : maxB n es xs k = false := by
        have : xs = [] := List.eq_nil_of_length_eq_zero (by have := h2.len; omega)
        unfold maxB; rw [this]; rfl
      rw [hf]
      have q0 : ((m2 : Int) == 0) = true := by rw [h0]; rfl
      replace kis := Lib.hid kis
      clear hI hf h0
      go_enter Tryd.func33, Tryd.ntmps33
      go_wp2_with (first
        | (go_at_call 32; refine (kis.out _ (hE.alloc _) (h2.alloc _)).mono ?_; rintro e w1 ⟨rfl, hb1⟩
           have hW1 : Below w.heap.size w w1 := hB1.trans (hb1.mono (by simp)))
        | fail)
      go_ret
      exact ⟨rfl, hW1⟩
    · obtain ⟨hc, hk1, hk3, hV⟩ := isB_yes hI
      obtain ⟨N, rfl⟩ := Int.eq_ofNat_of_zero_le (chkG_zero hc).1
      obtain ⟨kk, rfl⟩ := Int.eq_ofNat_of_zero_le (show 0 ≤ k by omega)
      have hN : N ≤ 64 := by have := (chkG_zero hc).2.1; omega
      have hne : xs ≠ [] := fun h => by have := h2.len; rw [h] at this; simp at this; omega
      have hf : maxB N es xs kk = clo (ad (rowsL N es)) N kk (xs.map Int.toNat) := by
        unfold maxB; rw [hI, decide_eq_true hne]; rfl
      rw [hf]
      obtain ⟨e1, e2, e3⟩ := nt_toNat hV
      clear hf hV hI hne
      generalize xs.map Int.toNat = S at *
      subst e1
      have hSl : S.length = m2 := by have := h2.len; rw [nt_length] at this; exact this
      have hm64 : m2 ≤ 64 := by have := len_le e2 e3; omega
      have q0 : ((m2 : Int) == 0) = false := by simp; omega
      have kha := fun v w h => has_any A2 m2 c2 (nt S) v w h (by omega)
      have kadd : Hid (∀ v, v < N → v ∉ S → ∀ (A8 : Option Addr) (n8 c8 : Nat) w, RE w A m es → RI w A8 n8 (ofL (nt S ++ [(v : Int)])) → n8 ≤ 1099511627776 → Calls Tryd.prog 32 #[.agg #[.int .i64 N, .slice A m c], .slice A8 n8 c8, .int .i64 kk] w fun e w' => e = .returned (.bool (decide (plx (ad (rowsL N es)) kk (v :: S)))) ∧ Below w.heap.size w w') := Lib.hid fun v hv hvS A8 n8 c8 w hE h8 h9 => by
        have := r28is_any A m c N es A8 n8 c8 _ kk w hE hm h8 h9
        rwa [isB_add hc (by omega) (by omega) e2 e3 hv hvS] at this
      replace kis := Lib.hid kis
      replace kha := Lib.hid kha
      replace hSl := Lib.hid hSl
      clear hc e2 e3 hk1 hk3 h0
      go_enter Tryd.func33, Tryd.ntmps33
      go_wp2_with (first
        | (go_at_call 32; refine (kis.out _ (hE.alloc _) (h2.alloc _)).mono ?_; rintro e w1 ⟨rfl, hb1⟩
           have hW1 : Below w.heap.size w w1 := hB1.trans (hb1.mono (by simp))
           have bg1 := Blk.below (Blk.new w 27 #[.int .i64 N, .slice A m c]) hb1 hlt
           have hE1 := hE.below hW1 (Nat.le_refl _)
           have hS1 := h2.below hW1 (Nat.le_refl _))
        | fail)
      have hlt1 := bg1.lt
      clear hb1 kis hB1 hlt h2 hE
      go_loopw [7] (fun i wr => ∃ k1 : Nat, k1 ≤ N ∧ i = .int .i64 k1 ∧ Hid (∀ v, v < k1 → v ∉ S → ¬ plx (ad (rowsL N es)) kk (v :: S)) ∧ Below w1.heap.size w1 wr) (fun i _ => N - (intOf i).toNat)
      case atStart => exact ⟨0, Nat.zero_le _, rfl, Lib.hid (fun a h => absurd h (by omega)), Below.refl _ _⟩
      case round =>
        obtain ⟨k1, hk1, rfl, hA, hbr⟩ := hrel
        have hG6 := bg1.below hbr hlt1
        obtain ⟨d0, d1⟩ := blkG hG6
        have hE6 := hE1.below hbr (Nat.le_refl _)
        have hS6 := hS1.below hbr (Nat.le_refl _)
        have hgl := hG6.lt
        by_cases hlt1' : k1 < N
        · have i1 : (k1 : Int) < (N : Int) := by omega
          by_cases hvS : k1 ∈ S
          · have kh := fun w h => kha.out k1 w h
            rw [decide_eq_true (mem_nt.2 hvS)] at kh
            replace kh := Lib.hid kh
            have hA3 : Hid (∀ v, v < k1 + 1 → v ∉ S → ¬ plx (ad (rowsL N es)) kk (v :: S)) := Lib.hid fun v hv hn => by
              by_cases hvk : v = k1
              · rw [hvk] at hn; exact absurd hvS hn
              · exact hA.out v (by omega) hn
            clear hvS kadd
            go_upto_region 6 with fail
            have kh2 : ∀ w, RI w A2 m2 (nt S) → Calls Tryd.prog 43 #[.slice A2 m2 c2, .int .i64 k1] w fun e w' => e = .returned (.bool true) ∧ w' = w := fun w h => (kh.out w h).mono (by rintro e w' ⟨rfl, h⟩; exact ⟨rfl, h.symm⟩)
            replace kh2 := Lib.hid kh2
            refine wp_region_still_tail 12 (by kernel_rfl) (by kernel_rfl) ?_
            simp only [List.take_succ_cons, List.take_zero, List.drop_succ_cons, List.drop_zero]
            change wpStill _ _ wr.drew _ _ _
            repeat (first | still_step | (refine wpStill_step (fun K hK => ?_); go_simp; refine ⟨_, kh2.out _ (by first | exact hS6 | exact hS6.drew), ?_⟩; refine hK _ ?_; clear hK K))
            refine wpStill_nil ?_
            change wpList _ _ _ _ _ wr.drew
            go_wp2_with fail
            go_roundw
            case rel => exact ⟨k1 + 1, by omega, by go_num, hA3, hbr.drew⟩
            case measure => simp [intOf]; omega
          · have kh := fun w h => kha.out k1 w h
            rw [decide_eq_false (fun h => hvS (mem_nt.1 h))] at kh
            replace kh := Lib.hid kh
            have ka := kadd.out k1 hlt1' hvS
            have hl8 : Hid ((ofL (nt S ++ [(k1 : Int)])).length ≤ 66) := Lib.hid (by
              have h1 := of_length (nt S ++ [(k1 : Int)])
              rw [List.length_append, nt_length] at h1
              have := hSl.out; simp at h1; omega)
            cases hP : decide (plx (ad (rowsL N es)) kk (k1 :: S)) with
            | true =>
              rw [hP] at ka
              rw [decide_eq_true_iff] at hP
              have hno : Hid (clo (ad (rowsL N es)) N kk S = false) := Lib.hid (by
                rw [Bool.eq_false_iff]; intro h; exact clo_iff.1 h k1 hlt1' hvS hP)
              replace ka := Lib.hid ka
              clear hP hvS kadd
              go_upto_region 6 with fail
              go_region_held3 (fun w' => w'.cell? ⟨w.heap.size, 0, none⟩ = some (.int .i64 N) ∧ w'.cell? ⟨w.heap.size, 1, none⟩ = some (.slice A m c))
                ((first | (exact ⟨(hbg.cell (p := ⟨w.heap.size, 0, none⟩) hgl).trans d0, (hbg.cell (p := ⟨w.heap.size, 1, none⟩) hgl).trans d1⟩) | (exact ⟨(hbf.cell (p := ⟨w.heap.size, 0, none⟩) hgl).trans d0, (hbf.cell (p := ⟨w.heap.size, 1, none⟩) hgl).trans d1⟩) | go_keep))
                ((first
                  | (go_at_call 43; refine (kh.out _ (by first | exact hS6 | exact hS6.drewN _)).mono ?_; rintro e wx ⟨rfl, hwx⟩; obtain rfl := hwx)
                  | (go_at_call 60; refine (union_any A2 (some ⟨wr.heap.size, 0, none⟩) m2 c2 1 1 (nt S) [(k1 : Int)] _ ((RI.alloc hS6 _).drew) (by omega) ((RI.one (w := wr) (k1 : Int)).drew) (by omega)).mono ?_; rintro e wf ⟨A7, n7, c7, rfl, hc7, hr7, hb7, hf7⟩
                     have hbf : Below wr.heap.size wr wf := (((Below.refl wr.heap.size wr).alloc (Nat.le_refl _) _).drew).trans (hb7.mono (by simp))
                     have hEf := hE6.below hbf (Nat.le_refl _)
                     have hn7 : n7 ≤ 1099511627776 := by have := hr7.len; have := hl8.out; omega)
                  | (go_at_call 32; refine (ka.out A7 n7 c7 _ (by first | exact hEf | exact hEf.drewN _) hr7 hn7).mono ?_; rintro e wg ⟨rfl, hb8⟩
                     have hbg : Below wr.heap.size wr wg := hbf.trans (hb8.mono hbf.size))
                  | fail))
              all_goals
                go_wp2_with fail
                go_ret
                exact ⟨retBool hno.out.symm, hW1.trans ((hbr.trans (hbg.mono hbr.size)).mono hW1.size)⟩
            | false =>
              rw [hP] at ka
              rw [decide_eq_false_iff_not] at hP
              have hA3 : Hid (∀ v, v < k1 + 1 → v ∉ S → ¬ plx (ad (rowsL N es)) kk (v :: S)) := Lib.hid fun v hv hn => by
                by_cases hvk : v = k1
                · rw [hvk]; exact hP
                · exact hA.out v (by omega) hn
              replace ka := Lib.hid ka
              clear hP hvS kadd
              go_upto_region 6 with fail
              go_region_held3 (fun w' => w'.cell? ⟨w.heap.size, 0, none⟩ = some (.int .i64 N) ∧ w'.cell? ⟨w.heap.size, 1, none⟩ = some (.slice A m c))
                ((first | (exact ⟨(hbg.cell (p := ⟨w.heap.size, 0, none⟩) hgl).trans d0, (hbg.cell (p := ⟨w.heap.size, 1, none⟩) hgl).trans d1⟩) | (exact ⟨(hbf.cell (p := ⟨w.heap.size, 0, none⟩) hgl).trans d0, (hbf.cell (p := ⟨w.heap.size, 1, none⟩) hgl).trans d1⟩) | go_keep))
                ((first
                  | (go_at_call 43; refine (kh.out _ (by first | exact hS6 | exact hS6.drewN _)).mono ?_; rintro e wx ⟨rfl, hwx⟩; obtain rfl := hwx)
                  | (go_at_call 60; refine (union_any A2 (some ⟨wr.heap.size, 0, none⟩) m2 c2 1 1 (nt S) [(k1 : Int)] _ ((RI.alloc hS6 _).drew) (by omega) ((RI.one (w := wr) (k1 : Int)).drew) (by omega)).mono ?_; rintro e wf ⟨A7, n7, c7, rfl, hc7, hr7, hb7, hf7⟩
                     have hbf : Below wr.heap.size wr wf := (((Below.refl wr.heap.size wr).alloc (Nat.le_refl _) _).drew).trans (hb7.mono (by simp))
                     have hEf := hE6.below hbf (Nat.le_refl _)
                     have hn7 : n7 ≤ 1099511627776 := by have := hr7.len; have := hl8.out; omega)
                  | (go_at_call 32; refine (ka.out A7 n7 c7 _ (by first | exact hEf | exact hEf.drewN _) hr7 hn7).mono ?_; rintro e wg ⟨rfl, hb8⟩
                     have hbg : Below wr.heap.size wr wg := hbf.trans (hb8.mono hbf.size))
                  | fail))
              all_goals
                go_wp2_with fail
                go_roundw
                case rel => exact ⟨k1 + 1, by omega, by go_num, hA3, hbr.trans (hbg.mono hbr.size)⟩
                case measure => simp [intOf]; omega
        · have hyes : Hid (clo (ad (rowsL N es)) N kk S = true) := Lib.hid (clo_iff.2 fun v hv hn => hA.out v (by omega) hn)
          have i1 : ¬ (k1 : Int) < (N : Int) := by omega
          go_wp2_with fail
          go_ret
          exact ⟨retBool hyes.out.symm, hW1.trans (hbr.mono hW1.size)⟩
end Go.Proofs.YtfefginhlliccaaDoor.Pl

/- Reference 28: grow, fault, Next, All, Reduce. -/
set_option linter.unusedVariables false
set_option linter.unusedSimpArgs false
namespace Go.Proofs.YtfefginhlliccaaDoor.Pl
open Go.RowKit Go.Shelf CoBit CoCli Go.Proofs.YtfefginhlliccaaDoor

theorem grown_chain {a b c : World} {r s : Option Nat} (h : a.grownBy b r) (h2 : b.grownBy c s) (hs : s = r ∨ ∃ k, s = some k ∧ a.heap.size ≤ k) : a.grownBy c r :=
  ⟨h2.os.trans h.os, h2.tape.trans h.tape, h2.output.trans h.output, Nat.le_trans h.size h2.size, fun k hk hne => (h2.block k (Nat.lt_of_lt_of_le hk h.size) (fun e => by
    rcases hs with hs | ⟨j, hs, hj⟩
    · exact hne (e.trans hs)
    · rw [hs] at e; injection e with e; omega)).trans (h.block k hk hne)⟩
theorem grown_below {a b : World} {B : Nat} (h : Below B a b) (hB : a.heap.size ≤ B) (r : Option Nat) : a.grownBy b r := ⟨h.os, h.tape, h.output, h.size, fun k hk _ => h.block k (Nat.lt_of_lt_of_le hk hB)⟩
theorem own_chain {a : Nat} {b : Nat} {r s t : Option Nat} (h : s = r ∨ ∃ k, s = some k ∧ a ≤ k) (h2 : t = s ∨ ∃ k, t = some k ∧ b ≤ k) (hab : a ≤ b) : t = r ∨ ∃ k, t = some k ∧ a ≤ k := by
  rcases h2 with h2 | ⟨k, h2, hk⟩
  · rw [h2]; exact h
  · exact .inr ⟨k, h2, Nat.le_trans hab hk⟩
theorem RE.keptG {A : Option Addr} {n : Nat} {es : List (Int × Int)} {W W' : World} {r : Option Nat} (h : RE W A n es) (hs : W.grownBy W' r) (hx : ∀ ad, A = some ad → 0 < n → r ≠ some ad.block) : RE W' A n es := RE.same h (Same.of_grown hs) hx
theorem RI.keptG {A : Option Addr} {n : Nat} {xs : List Int} {W W' : World} {r : Option Nat} (h : RI W A n xs) (hs : W.grownBy W' r) (hx : ∀ ad, A = some ad → 0 < n → r ≠ some ad.block) : RI W' A n xs := (Same.of_grown hs).ri h hx

/-- p itself, if it is wanted. -/
def own28 (a : Nat → Nat → Bool) (n k least : Nat) (p : List Nat) : List (List Nat) := if least ≤ p.length ∧ mxl a n k p then [p] else []
def lp28 (a : Nat → Nat → Bool) (n k least : Nat) : List Nat → List Nat → List (List Nat)
  | [], _ => []
  | v :: L, p => (if plx a k (p ++ [v]) then own28 a n k least (p ++ [v]) ++ lp28 a n k least L (p ++ [v]) else []) ++ lp28 a n k least L p
theorem lp_eq {a : Nat → Nat → Bool} {n k least : Nat} : ∀ (L p : List Nat), lp28 a n k least L p = (ext p L).filter (want a n k least) := by
  intro L
  induction L with
  | nil => intro p; rfl
  | cons v L ih =>
    intro p
    rw [lp28, ext_cons, List.filter_append, ih p]
    congr 1
    by_cases hp : plx a k (p ++ [v])
    · rw [if_pos hp, ih (p ++ [v])]
      unfold lx own28
      rw [List.filter_cons]
      by_cases hw : least ≤ (p ++ [v]).length ∧ mxl a n k (p ++ [v])
      · rw [if_pos hw, if_pos (by unfold want; rw [decide_eq_true hw.1, decide_eq_true hw.2]; rfl)]; rfl
      · rw [if_neg hw, if_neg (by
          intro h; unfold want at h; rw [Bool.and_eq_true, decide_eq_true_iff, decide_eq_true_iff] at h; exact hw h)]; rfl
    · rw [if_neg hp, filter_none]
      exact want_pre hp
theorem lp_plexs (n : Nat) (es : List (Int × Int)) (k least : Nat) : own28 (ad (rowsL n es)) n k least [] ++ lp28 (ad (rowsL n es)) n k least (List.range' 0 n) [] = plexs n es k least [] := by
  have h0 : own28 (ad (rowsL n es)) n k least [] = [] := by unfold own28; rw [if_neg]; intro h; exact h.2.1 rfl
  rw [h0, List.nil_append, lp_eq, ← List.range_eq_range']
  unfold plexs lx
  rw [List.filter_cons, if_neg (by
    intro h; rw [Bool.and_eq_true] at h
    exact want_ne h.1 rfl)]
  refine List.filter_congr fun S _ => ?_
  by_cases hw : want (ad (rowsL n es)) n k least S = true
  · rw [hw, gt_nil (want_ne hw)]; rfl
  · rw [Bool.not_eq_true] at hw; rw [hw]; rfl
/-- What grow leaves. -/
def Ret28 (W : World) (B : Nat) (v : Value) (L : List (List Int)) (r : Ending) (W' : World) : Prop :=
  ∃ v', r = .returned v' ∧ OL IE 22 W' B v' L ∧ W.grownBy W' v.ownBlock ∧ (v'.ownBlock = v.ownBlock ∨ ∃ k, v'.ownBlock = some k ∧ W.heap.size ≤ k)

set_option maxRecDepth 100000 in
set_option maxHeartbeats 8000000 in
theorem r28grow_any (A : Option Addr) (m c n : Nat) (es : List (Int × Int)) (hm : m ≤ 274877906944) (hc : chkG n es = 0) (kk ls B : Nat) (hk1 : 1 ≤ kk) (hk3 : kk ≤ 3) (hls : ls ≤ 64) (hAB : ∀ ad, A = some ad → 0 < m → ad.block < B) : ∀ (d from' : Nat), from' + d = n → ∀ (A2 : Option Addr) (m2 c2 : Nat) (p : List Nat) (v : Value) (L : List (List Int)) (w : World),
    RE w A m es → RI w A2 m2 (nt p) → m2 ≤ c2 → (∀ ad, A2 = some ad → 0 < m2 → some ad.block ≠ v.ownBlock ∧ B ≤ ad.block) → OL IE 22 w B v L → B ≤ w.heap.size → p.Pairwise (· < ·) → (∀ x ∈ p, x < from') → L.length + (own28 (ad (rowsL n es)) n kk ls p ++ lp28 (ad (rowsL n es)) n kk ls (List.range' from' d) p).length ≤ 1000000 →
    Calls Tryd.prog 59 #[.agg #[.int .i64 n, .slice A m c], .slice A2 m2 c2, .int .i64 from', .int .i64 kk, .int .i64 ls, v] w (Ret28 w B v (L ++ (own28 (ad (rowsL n es)) n kk ls p ++ lp28 (ad (rowsL n es)) n kk ls (List.range' from' d) p).map nt)) := by
  intro d
  induction d using Nat.strongRecOn with
  | ind d ih =>
  intro from' hfd A2 m2 c2 p v L w hE h2 hmc2 hA2 hOL hB hs hp hmax
  have hN := (chkG_zero hc).2.1
  obtain ⟨Ao, co, hov, hco, -⟩ := hOL.read
  have hpl : p.length = m2 := by have := h2.len; rw [nt_length] at this; exact this
  have hpn : ∀ x ∈ p, x < n := fun x hx => by have := hp x hx; omega
  have hm64 : m2 ≤ 64 := by have := len_le hs hpn; omega
  have hB1 : Below w.heap.size w (w.alloc (.cells #[.int .i64 n, .slice A m c] 27)) := (Below.refl _ w).alloc (Nat.le_refl _) _
  have bg1 := Blk.new w 27 #[.int .i64 n, .slice A m c]
  have hE1 := hE.below hB1 (Nat.le_refl _)
  have hS1 := h2.below hB1 (Nat.le_refl _)
  have hO1 := hOL.below hB1 (Nat.le_refl _)
  have hOlt := hOL.lt
  have hSb := fun hp => RI.block_lt' h2 hp
  have hEb := fun hp => RE.block_lt hE hp
  have hgr1 := grown_below hB1 (Nat.le_refl _) v.ownBlock
  have hz1 : (w.alloc (.cells #[.int .i64 n, .slice A m c] 27)).heap.size = w.heap.size + 1 := by simp
  have kmx : ∀ w, RE w A m es → RI w A2 m2 (nt p) → Calls Tryd.prog 33 #[.agg #[.int .i64 n, .slice A m c], .slice A2 m2 c2, .int .i64 kk] w fun e w' => e = .returned (.bool (decide (mxl (ad (rowsL n es)) n kk p))) ∧ Below w.heap.size w w' := fun w h h2 => by
    have := r28max_any A m c n es A2 m2 c2 (nt p) kk w h hm h2 (by omega)
    rwa [maxB_of hc hk1 hk3 hs hpn] at this
  have kis : Hid (∀ q : List Nat, q.Pairwise (· < ·) → (∀ x ∈ q, x < n) → ∀ (A7 : Option Addr) (n7 c7 : Nat) w, RE w A m es → RI w A7 n7 (nt q) → n7 ≤ 1099511627776 → Calls Tryd.prog 32 #[.agg #[.int .i64 n, .slice A m c], .slice A7 n7 c7, .int .i64 kk] w fun e w' => e = .returned (.bool (decide (plx (ad (rowsL n es)) kk q))) ∧ Below w.heap.size w w') := Lib.hid fun q hq hqn A7 n7 c7 w h h7 h9 => by
    have := r28is_any A m c n es A7 n7 c7 (nt q) kk w h hm h7 h9
    rwa [isB_of hc hk1 hk3 hq hqn] at this
  have hfn : from' ≤ n := by omega
  have hn64 : n ≤ 64 := by omega
  have hdn : Hid (d = n - from') := Lib.hid (by omega)
  have hmax' := Lib.hid hmax
  have ih' := Lib.hid ih
  have hcase : (¬ (ls : Int) ≤ (m2 : Int) ∧ own28 (ad (rowsL n es)) n kk ls p = []) ∨ ((ls : Int) ≤ (m2 : Int) ∧ decide (mxl (ad (rowsL n es)) n kk p) = false ∧ own28 (ad (rowsL n es)) n kk ls p = []) ∨ ((ls : Int) ≤ (m2 : Int) ∧ decide (mxl (ad (rowsL n es)) n kk p) = true ∧ own28 (ad (rowsL n es)) n kk ls p = [p]) := by
    unfold own28
    by_cases h1 : ls ≤ m2
    · by_cases hmx : mxl (ad (rowsL n es)) n kk p
      · exact .inr (.inr ⟨by omega, decide_eq_true hmx, if_pos ⟨by omega, hmx⟩⟩)
      · exact .inr (.inl ⟨by omega, decide_eq_false hmx, if_neg (fun h => hmx h.2)⟩)
    · exact .inl ⟨by omega, if_neg (fun h => h1 (by have := h.1; omega))⟩
  have hpl' := Lib.hid hpl
  have hLb : L.length ≤ 1000000 := by omega
  generalize decide (mxl (ad (rowsL n es)) n kk p) = M at *
  replace kmx := Lib.hid kmx
  subst hov
  clear hc hN hmax ih hOL h2 hE hfd hpl
  go_enter Tryd.func59, Tryd.ntmps59
  go_upto_region 1 with fail
  generalize w.alloc (.cells #[.int .i64 n, .slice A m c] 27) = w1 at *
  obtain ⟨g0, g1⟩ := blkG bg1
  have hlt1 := bg1.lt
  rcases hcase with ⟨i1, hown⟩ | ⟨i1, hM, hown⟩ | ⟨i1, hM, hown⟩
  case' inl =>
    replace hown := Lib.hid hown
    go_upto_region 3 with fail
    obtain ⟨v2, hv2⟩ : ∃ v2, v2 = Value.slice Ao L.length co := ⟨_, rfl⟩
    rw [← hv2]
    have hOq : OL IE 22 w1 B v2 L := by rw [hv2]; exact hO1
    have hownq : v2.ownBlock = (Value.slice Ao L.length co).ownBlock ∨ ∃ k, v2.ownBlock = some k ∧ w.heap.size + 1 ≤ k := .inl (by rw [hv2])
    obtain ⟨L2, hL2, hLL⟩ : ∃ L2, Hid (L2 = L ++ (own28 (ad (rowsL n es)) n kk ls p).map nt) ∧ L2 = L := ⟨L, Lib.hid (by rw [hown.out]; simp), rfl⟩
    rw [← hLL] at hOq
    clear hLL hv2
    have bgq := bg1
    have hEq := hE1
    have hSq := hS1
    have hgrq := hgr1
    have hzq : w.heap.size + 1 ≤ w1.heap.size := by omega
    obtain ⟨wq, hwq⟩ : ∃ wq, wq = w1 := ⟨_, rfl⟩
    subst hwq
    clear hO1 hE1 hS1 bg1 hgr1
  case' inr.inl =>
    replace hown := Lib.hid hown
    have km := kmx.out w1 hE1 hS1
    rw [hM] at km
    replace km := Lib.hid km
    go_upto_region 3 with (first | (go_at_call 33; refine km.out.mono ?_; rintro e wq ⟨rfl, hbq⟩) | fail)
    obtain ⟨v2, hv2⟩ : ∃ v2, v2 = Value.slice Ao L.length co := ⟨_, rfl⟩
    rw [← hv2]
    have hOq : OL IE 22 wq B v2 L := by rw [hv2]; exact hO1.below hbq (Nat.le_refl _)
    have hownq : v2.ownBlock = (Value.slice Ao L.length co).ownBlock ∨ ∃ k, v2.ownBlock = some k ∧ w.heap.size + 1 ≤ k := .inl (by rw [hv2])
    obtain ⟨L2, hL2, hLL⟩ : ∃ L2, Hid (L2 = L ++ (own28 (ad (rowsL n es)) n kk ls p).map nt) ∧ L2 = L := ⟨L, Lib.hid (by rw [hown.out]; simp), rfl⟩
    rw [← hLL] at hOq
    clear hLL hv2 km
    have bgq := bg1.below hbq hlt1
    have hEq := hE1.below hbq (Nat.le_refl _)
    have hSq := hS1.below hbq (Nat.le_refl _)
    have hgrq := grown_chain hgr1 (grown_below hbq (Nat.le_refl _) _) (.inl rfl)
    have hzq : w.heap.size + 1 ≤ wq.heap.size := by have := hbq.size; omega
    clear hO1 hE1 hS1 bg1 hgr1 hbq
  case' inr.inr =>
    replace hown := Lib.hid hown
    have km := kmx.out w1 hE1 hS1
    rw [hM] at km
    replace km := Lib.hid km
    go_upto_region 2 with (first | (go_at_call 33; refine km.out.mono ?_; rintro e w5 ⟨rfl, hb5⟩) | fail)
    have hO5 := hO1.below hb5 (Nat.le_refl _)
    have hS5 := hS1.below hb5 (Nat.le_refl _)
    have hz5 := hb5.size
    have hA5 : ∀ ad, A2 = some ad → 0 < m2 → some ad.block ≠ (Value.slice Ao L.length co).ownBlock ∧ B ≤ ad.block ∧ ad.block < w5.heap.size := fun ad e hp => ⟨(hA2 ad e hp).1, (hA2 ad e hp).2, by have := hSb hp ad e; omega⟩
    clear km
    go_upto_region 3 with (first
      | (at_builtin; refine wpList_pushLG (E := IE) (st := 31) (t := 22) Tryd.underlying31 (by kernel_rfl) rfl _ _ rfl rfl rfl rfl hO5 (by omega) (by omega) hmc2 (rs_ri.2 hS5) hA5 ?_; intro v2 wq hOq hbBq hgq hoq)
      | fail)
    have hownq : v2.ownBlock = (Value.slice Ao L.length co).ownBlock ∨ ∃ k, v2.ownBlock = some k ∧ w.heap.size + 1 ≤ k := hoq.imp id (fun ⟨k, h1, h2⟩ => ⟨k, h1, by omega⟩)
    obtain ⟨L2, hL2, hLL⟩ : ∃ L2, Hid (L2 = L ++ (own28 (ad (rowsL n es)) n kk ls p).map nt) ∧ L2 = L ++ [nt p] := ⟨_, Lib.hid (by rw [hown.out]; simp), rfl⟩
    rw [← hLL] at hOq
    clear hLL
    have hgrq := grown_chain (grown_chain hgr1 (grown_below hb5 (Nat.le_refl _) _) (.inl rfl)) hgq (.inl rfl)
    have hgr1q := grown_chain (grown_below hb5 (Nat.le_refl _) _) hgq (.inl rfl)
    have bgq := bg1.grown hgr1q (fun e => by have := hOlt _ e.symm; omega)
    have hEq := RE.keptG hE1 hgr1q (fun ad e hp h => by have h1 := hOlt _ h; have h2 := hAB ad e hp; omega)
    have hSq := RI.keptG hS1 hgr1q (fun ad e hp h => (hA2 ad e hp).1 h.symm)
    have hzq : w.heap.size + 1 ≤ wq.heap.size := by have := hgq.size; omega
    clear hO1 hE1 hS1 bg1 hgr1 hb5 hO5 hS5 hA5 hgq hoq hbBq hgr1q
  all_goals
    have hOqlt := hOq.lt
    have hAq : ∀ ad, A = some ad → 0 < m → v2.ownBlock ≠ some ad.block := fun ad e hp h => by have h1 := hOqlt _ h; have h2 := hAB ad e hp; omega
    have hA2q : ∀ ad, A2 = some ad → 0 < m2 → v2.ownBlock ≠ some ad.block := fun ad e hp h => by
      rcases hownq with h1 | ⟨k, h1, h2⟩
      · exact (hA2 ad e hp).1 (h.symm.trans h1)
      · rw [h1] at h; injection h with h; have := hSb hp ad e; omega
    have hGq : some w.heap.size ≠ v2.ownBlock := fun h => by
      rcases hownq with h1 | ⟨k, h1, h2⟩
      · have := hOlt _ (h1.symm.trans h.symm); omega
      · rw [h1] at h; injection h with h; omega
    have hLL2 : L2.length + (lp28 (ad (rowsL n es)) n kk ls (List.range' from' d) p).length ≤ 1000000 := by
      have h1 := hmax'.out
      have h2 := congrArg List.length hL2.out
      simp only [List.length_append, List.length_map] at h1 h2
      omega
    have hLL2' := Lib.hid hLL2
    try clear hM
    clear hLL2 hmax' kmx g0 g1
    go_wp2_with fail
    go_loopw [5, 13] (fun o i wr => ∃ (u : Value) (j : Nat) (pre : List (List Int)), u = o ∧ i = .int .i64 j ∧ from' ≤ j ∧ j ≤ n ∧ OL IE 22 wr B u (L2 ++ pre) ∧ wq.grownBy wr v2.ownBlock ∧ (u.ownBlock = v2.ownBlock ∨ ∃ k, u.ownBlock = some k ∧ wq.heap.size ≤ k) ∧ Hid ((lp28 (ad (rowsL n es)) n kk ls (List.range' from' d) p).map nt = pre ++ (lp28 (ad (rowsL n es)) n kk ls (List.range' j (n - j)) p).map nt)) (fun _ i _ => n - (intOf i).toNat)
    case atStart => exact ⟨_, from', [], rfl, rfl, Nat.le_refl _, hfn, by rw [List.append_nil]; exact hOq, World.grownBy.refl _ _, .inl rfl, Lib.hid (by rw [hdn.out]; rfl)⟩
    case round =>
      obtain ⟨u, j, pre, rfl, rfl, hj0, hj1, hOr, hgr, hor, heq⟩ := hrel
      have hGr := bgq.grown hgr hGq
      obtain ⟨d0, d1⟩ := blkG hGr
      have hEr := RE.keptG hEq hgr hAq
      have hSr := RI.keptG hSq hgr hA2q
      have hzr := hgr.size
      have hgl := hGr.lt
      by_cases hlt : j < n
      · have i2 : (j : Int) < (n : Int) := by omega
        have hstep := range_step hlt
        have hpj : (p ++ [j]).Pairwise (· < ·) := by
          rw [List.pairwise_append]
          exact ⟨hs, List.pairwise_singleton _ _, fun a ha b hb => by rw [List.mem_singleton] at hb; subst hb; have := hp a ha; omega⟩
        have hpj1 : ∀ x ∈ p ++ [j], x < j + 1 := fun x hx => by
          rw [List.mem_append, List.mem_singleton] at hx
          rcases hx with hx | rfl
          · have := hp x hx; omega
          · omega
        have ki := kis.out (p ++ [j]) hpj (fun x hx => by have := hpj1 x hx; omega)
        replace hstep := Lib.hid hstep
        have hnl : (nt p).length ≤ 64 := by rw [nt_length]; have := hpl'.out; omega
        replace ki := Lib.hid ki
        go_upto_region 7 with (first
          | (at_builtin; refine wpList_push rfl _ _ rfl rfl rfl rfl ho6 (by simp; omega) (hb6.size) ?_; intro v7 w7 ho7 hb7 hg7)
          | (at_builtin; refine wpList_cat (B := wr.heap.size) (ys := []) rfl _ _ rfl rfl rfl OI.nil_ hSr (by simp; omega) (Nat.le_refl _) ?_; intro v6 w6 ho6 hb6 hg6)
          | fail)
        have hb57 : Below wr.heap.size wr w7 := hb6.trans hb7
        have hO7 := hOr.below hb57 (Nat.le_refl _)
        have hE7 := hEr.below hb57 (Nat.le_refl _)
        have hG7 := hGr.below hb57 hgl
        have hz7 := hb57.size
        obtain ⟨A7, n7, c7, rfl, hn7, hc7, -, hr7⟩ := ho7.form
        have hfr7 := ho7.fresh hn7
        have hls7 : ([] ++ nt p ++ [(j : Int)]) = nt (p ++ [j]) := by simp [nt]
        rw [hls7] at hr7
        have hn7' : n7 ≤ 65 := by have := hr7.len; rw [nt_length, List.length_append] at this; have := hpl'.out; simp at *; omega
        replace hn7 := Lib.hid hn7
        have ki2 := ki.out A7 n7 c7 w7 hE7 hr7 (by omega)
        obtain ⟨g0, g1⟩ := blkG hG7
        have hOrlt := hOr.lt
        clear hb6 hg6 ho6 hb7 hg7 ho7 hls7 hOr hEr hGr ki d0 d1
        cases hP : decide (plx (ad (rowsL n es)) kk (p ++ [j])) with
        | false =>
          rw [hP] at ki2
          rw [decide_eq_false_iff_not] at hP
          have heq2 : Hid ((lp28 (ad (rowsL n es)) n kk ls (List.range' from' d) p).map nt = pre ++ (lp28 (ad (rowsL n es)) n kk ls (List.range' (j + 1) (n - (j + 1))) p).map nt) := Lib.hid (by
            rw [heq.out, hstep.out, lp28, if_neg hP]; rfl)
          replace ki2 := Lib.hid ki2
          clear hP heq hstep
          go_wp2_with (first | (go_at_call 32; refine ki2.out.mono ?_; rintro e w8 ⟨rfl, hb8⟩) | fail)
          go_roundw
          case rel => exact ⟨_, j + 1, pre, rfl, by go_num, by omega, by omega, hO7.below hb8 (Nat.le_refl _), grown_chain hgr (grown_chain (grown_below hb57 (Nat.le_refl _) v2.ownBlock) (grown_below hb8 (Nat.le_refl _) v2.ownBlock) (.inl rfl)) (.inl rfl), hor, heq2⟩
          case measure => simp [intOf]; omega
        | true =>
          rw [hP] at ki2
          rw [decide_eq_true_iff] at hP
          have heq2 : Hid ((lp28 (ad (rowsL n es)) n kk ls (List.range' from' d) p).map nt = pre ++ (own28 (ad (rowsL n es)) n kk ls (p ++ [j]) ++ lp28 (ad (rowsL n es)) n kk ls (List.range' (j + 1) (n - (j + 1))) (p ++ [j])).map nt ++ (lp28 (ad (rowsL n es)) n kk ls (List.range' (j + 1) (n - (j + 1))) p).map nt) := Lib.hid (by
            rw [heq.out, hstep.out, lp28, if_pos hP]; simp)
          replace ki2 := Lib.hid ki2
          clear hP heq hstep
          go_upto_region 8 with (first | (go_at_call 32; refine ki2.out.mono ?_; rintro e w8 ⟨rfl, hb8⟩) | fail)
          have hz8 := hb8.size
          obtain ⟨f0, f1⟩ := blkG (hG7.below hb8 hG7.lt)
          have ihc := ih'.out (n - (j + 1)) (by have := hdn.out; omega) (j + 1) (by omega) A7 n7 c7 (p ++ [j]) u (L2 ++ pre) w8 (hE7.below hb8 (Nat.le_refl _)) (hr7.below hb8 (Nat.le_refl _)) hc7 (fun ad e hp => ⟨fun h => by have h1 := hOrlt _ h.symm; have h2 := hfr7 ad e; omega, by have := hfr7 ad e; omega⟩) (hO7.below hb8 (Nat.le_refl _)) (by omega) hpj hpj1 (by
            have h1 := congrArg List.length heq2.out
            have h2 := hLL2'.out
            simp only [List.length_append, List.length_map] at h1 h2 ⊢
            omega)
          rw [show ((j + 1 : Nat) : Int) = (j : Int) + 1 from rfl] at ihc
          replace ihc := Lib.hid ihc
          clear hr7 hE7 ki2 g0 g1 ih'
          go_wp2_with (first
            | (go_at_call 59; refine ihc.out.mono ?_; rintro e w9 ⟨v9, rfl, h9, hg9, ho9⟩)
            | fail)
          go_roundw
          case rel =>
            exact ⟨_, j + 1, pre ++ (own28 (ad (rowsL n es)) n kk ls (p ++ [j]) ++ lp28 (ad (rowsL n es)) n kk ls (List.range' (j + 1) (n - (j + 1))) (p ++ [j])).map nt, rfl, by go_num, by omega, by omega, by rw [← List.append_assoc]; exact h9, grown_chain (grown_chain hgr (grown_chain (grown_below hb57 (Nat.le_refl _) v2.ownBlock) (grown_below hb8 (Nat.le_refl _) v2.ownBlock) (.inl rfl)) (.inl rfl)) hg9 hor, own_chain hor ho9 (by omega), heq2⟩
          case measure => simp [intOf]; omega
      · have i2 : ¬ (j : Int) < (n : Int) := by omega
        have hend : Hid (L2 ++ pre = L ++ (own28 (ad (rowsL n es)) n kk ls p ++ lp28 (ad (rowsL n es)) n kk ls (List.range' from' d) p).map nt) := Lib.hid (by
          have h1 := heq.out
          rw [show n - j = 0 by omega] at h1
          rw [hL2.out, List.map_append, h1]; simp [lp28])
        have hO' : OL IE 22 wr B u (L ++ ((own28 (ad (rowsL n es)) n kk ls p).map nt ++ (lp28 (ad (rowsL n es)) n kk ls (List.range' from' d) p).map nt)) := by
          rw [← List.map_append, ← hend.out]; exact hOr
        go_wp2_with fail
        go_ret
        exact ⟨_, rfl, hO', grown_chain hgrq hgr (hownq.imp id (fun ⟨k, h1, h2⟩ => ⟨k, h1, by omega⟩)), own_chain (hownq.imp id (fun ⟨k, h1, h2⟩ => ⟨k, h1, by omega⟩)) hor (by omega)⟩
end Go.Proofs.YtfefginhlliccaaDoor.Pl

/- Reference 28: fault, Next, All, Reduce. -/
set_option linter.unusedVariables false
set_option linter.unusedSimpArgs false
namespace Go.Proofs.YtfefginhlliccaaDoor.Pl
open Go.RowKit Go.Shelf CoBit CoCli Go.Proofs.YtfefginhlliccaaDoor

set_option maxHeartbeats 1000000 in
theorem r28fault_any (A : Option Addr) (m c : Nat) (n : Int) (es : List (Int × Int)) (k least : Int) (w : World) (hE : RE w A m es) (hm : m ≤ 274877906944) :
    Calls Tryd.prog 58 #[.agg #[.int .i64 n, .slice A m c], .int .i64 k, .int .i64 least] w fun e w' => e = .returned (.int .i64 (errP n es k least)) ∧ Below w.heap.size w w' := by
  have kck := fun w h => rcheck_any A m c n es w h (by omega)
  have hB1 : Below w.heap.size w (w.alloc (.cells #[.int .i64 n, .slice A m c] 27)) := (Below.refl _ w).alloc (Nat.le_refl _) _
  by_cases h0 : chkG n es = 0
  · rw [h0] at kck
    replace kck := Lib.hid kck
    have hcase : (k < 1 ∧ Hid (errP n es k least = 1)) ∨ (¬ k < 1 ∧ 3 < k ∧ Hid (errP n es k least = 1)) ∨ (¬ k < 1 ∧ ¬ 3 < k ∧ least < 1 ∧ Hid (errP n es k least = 1)) ∨ (¬ k < 1 ∧ ¬ 3 < k ∧ ¬ least < 1 ∧ 64 < least ∧ Hid (errP n es k least = 1)) ∨ (¬ k < 1 ∧ ¬ 3 < k ∧ ¬ least < 1 ∧ ¬ 64 < least ∧ Hid (errP n es k least = 0)) := by
      unfold errP
      rw [if_neg (by omega)]
      by_cases h1 : k < 1
      · exact .inl ⟨h1, Lib.hid (if_neg (by omega))⟩
      · by_cases h2 : 3 < k
        · exact .inr (.inl ⟨h1, h2, Lib.hid (if_neg (by omega))⟩)
        · by_cases h3 : least < 1
          · exact .inr (.inr (.inl ⟨h1, h2, h3, Lib.hid (if_neg (by omega))⟩))
          · by_cases h4 : 64 < least
            · exact .inr (.inr (.inr (.inl ⟨h1, h2, h3, h4, Lib.hid (if_neg (by omega))⟩)))
            · exact .inr (.inr (.inr (.inr ⟨h1, h2, h3, h4, Lib.hid (if_pos (by omega))⟩)))
    clear h0
    rcases hcase with ⟨h1, hf⟩ | ⟨h1, h2, hf⟩ | ⟨h1, h2, h3, hf⟩ | ⟨h1, h2, h3, h4, hf⟩ | ⟨h1, h2, h3, h4, hf⟩
    all_goals
      go_enter Tryd.func58, Tryd.ntmps58
      go_wp2_with (first | (go_at_call 28; refine (kck.out _ (hE.alloc _)).mono ?_; rintro e w1 ⟨rfl, hb1⟩) | fail)
      go_ret
      exact ⟨retInt hf.out.symm, hB1.trans (hb1.mono (by simp))⟩
  · have hf : Hid (errP n es k least = chkG n es) := Lib.hid (by unfold errP; rw [if_pos h0])
    generalize chkG n es = z at *
    have q1 : (z != 0) = true := by simp [h0]
    replace kck := Lib.hid kck
    clear h0
    go_enter Tryd.func58, Tryd.ntmps58
    go_wp2_with (first | (go_at_call 28; refine (kck.out _ (hE.alloc _)).mono ?_; rintro e w1 ⟨rfl, hb1⟩) | fail)
    go_ret
    exact ⟨retInt hf.out.symm, hB1.trans (hb1.mono (by simp))⟩

/-- The search from nothing. -/
theorem r28all0_any (A : Option Addr) (m c n : Nat) (es : List (Int × Int)) (hm : m ≤ 274877906944) (hc : chkG n es = 0) (hn8 : n ≤ 8) (kk ls B : Nat) (hk1 : 1 ≤ kk) (hk3 : kk ≤ 3) (hls : ls ≤ 64) (hAB : ∀ ad, A = some ad → 0 < m → ad.block < B) (w : World) (hE : RE w A m es) (hB : B ≤ w.heap.size) :
    Calls Tryd.prog 59 #[.agg #[.int .i64 n, .slice A m c], .slice none 0 0, .int .i64 0, .int .i64 kk, .int .i64 ls, .slice none 0 0] w fun e w' => ∃ A2 n2 c2, e = .returned (.slice A2 n2 c2) ∧ n2 ≤ c2 ∧ RL IE w' A2 n2 ((plexs n es kk ls []).map nt) ∧ Below w.heap.size w w' ∧ n2 ≤ 256 := by
  have hsm : (plexs n es kk ls []).length ≤ 256 := plexs_small hn8 _ _ _ _
  have := r28grow_any A m c n es hm hc kk ls B hk1 hk3 hls hAB n 0 (by omega) none 0 0 [] (.slice none 0 0) [] w hE RI.none_ (Nat.le_refl _) (fun _ h => by cases h) OL.nil_ hB List.Pairwise.nil (by simp) (by rw [lp_plexs]; simp; omega)
  rw [lp_plexs, List.nil_append] at this
  refine this.mono ?_
  rintro e w' ⟨v', rfl, h1, h2, h3⟩
  obtain ⟨A2, c2, rfl, hc2, hr2, -⟩ := h1.read
  rw [List.length_map] at hc2 hr2
  exact ⟨A2, _, c2, by rw [List.length_map], hc2, hr2, (Same.of_grown h2).below (Nat.le_refl _) (fun k _ h => by cases h), hsm⟩

set_option maxRecDepth 100000 in
set_option maxHeartbeats 2000000 in
theorem r28all_any (A : Option Addr) (m c : Nat) (n : Int) (es : List (Int × Int)) (k least most : Int) (w : World) (hE : RE w A m es) (hm : m ≤ 274877906944) (hn8 : chkG n es = 0 → n ≤ 8) :
    Calls Tryd.prog 34 #[.agg #[.int .i64 n, .slice A m c], .int .i64 k, .int .i64 least, .int .i64 most] w (RetLL w (allL n es k least most) (errA n es k least most)) := by
  have kfa := fun w h => r28fault_any A m c n es k least w h hm
  have hB1 : Below w.heap.size w (w.alloc (.cells #[.int .i64 n, .slice A m c] 27)) := (Below.refl _ w).alloc (Nat.le_refl _) _
  have hlt : w.heap.size < (w.alloc (.cells #[.int .i64 n, .slice A m c] 27)).heap.size := by simp
  by_cases h0 : errP n es k least ≠ 0
  · have hfe : errA n es k least most = errP n es k least := by unfold errA; rw [if_pos h0]
    have hfl : allL n es k least most = [] := by unfold allL; rw [hfe, if_neg h0]
    rw [hfe, hfl]
    have hq : (errP n es k least != 0) = true := by simpa using h0
    generalize errP n es k least = z at *
    clear hfe hfl h0
    replace kfa := Lib.hid kfa
    go_enter Tryd.func34, Tryd.ntmps34
    go_wp2_with (first | (go_at_call 58; refine (kfa.out _ (hE.alloc _)).mono ?_; rintro e w1 ⟨rfl, hb1⟩) | fail)
    go_ret2
    exact ⟨none, 0, 0, rfl, Nat.le_refl _, RL.none_, hB1.trans (hb1.mono (by simp))⟩
  · have h00 : errP n es k least = 0 := by omega
    obtain ⟨z0, z1, z2, z3, z4⟩ := errP_zero h00
    rw [h00] at kfa
    replace kfa := Lib.hid kfa
    by_cases hmo : most < 0 ∨ 4096 < most
    · have hfe : errA n es k least most = 1 := by unfold errA; rw [if_neg h0, if_pos hmo]
      have hfl : allL n es k least most = [] := by unfold allL; rw [hfe, if_neg (by omega)]
      rw [hfe, hfl]
      clear hfe hfl h0 h00 z0 z1 z2 z3 z4
      have hcase : (most < 0) ∨ (¬ most < 0 ∧ 4096 < most) := by omega
      clear hmo
      rcases hcase with h1 | ⟨h1, h2⟩
      all_goals
        go_enter Tryd.func34, Tryd.ntmps34
        go_wp2_with (first | (go_at_call 58; refine (kfa.out _ (hE.alloc _)).mono ?_; rintro e w1 ⟨rfl, hb1⟩) | fail)
        go_ret2
        exact ⟨none, 0, 0, rfl, Nat.le_refl _, RL.none_, hB1.trans (hb1.mono (by simp))⟩
    · obtain ⟨N, rfl⟩ := Int.eq_ofNat_of_zero_le (chkG_zero z0).1
      obtain ⟨kk, rfl⟩ := Int.eq_ofNat_of_zero_le (show 0 ≤ k by omega)
      obtain ⟨ls, rfl⟩ := Int.eq_ofNat_of_zero_le (show 0 ≤ least by omega)
      obtain ⟨mo, rfl⟩ := Int.eq_ofNat_of_zero_le (show 0 ≤ most by omega)
      have hPL : errA N es kk ls mo = if mo < (plexs N es kk ls []).length then 3 else 0 := by
        unfold errA; rw [if_neg h0, if_neg hmo]
        show (if (mo : Int) < ((plexs N es kk ls []).length : Int) then (3 : Int) else 0) = _
        by_cases h : mo < (plexs N es kk ls []).length
        · rw [if_pos h, if_pos (by omega)]
        · rw [if_neg h, if_neg (by omega)]
      have hLL : allL N es kk ls mo = if errA N es kk ls mo = 0 then (plexs N es kk ls []).map nt else [] := rfl
      have kg := fun w' hE' hB => r28all0_any A m c N es hm z0 (by have := hn8 z0; omega) kk ls w.heap.size (by omega) (by omega) (by omega) (fun ad e hp => RE.block_lt hE hp ad e) w' hE' hB
      have i1 : ¬ (mo : Int) < 0 := by omega
      have i2 : ¬ 4096 < (mo : Int) := by omega
      replace kg := Lib.hid kg
      by_cases hov : mo < (plexs N es kk ls []).length
      · rw [if_pos hov] at hPL
        rw [hPL] at hLL
        rw [hLL, hPL]
        have hov' := Lib.hid hov
        clear hPL hLL h0 h00 z0 z1 z2 z3 z4 hmo hov
        go_enter Tryd.func34, Tryd.ntmps34
        go_wp2_with (first
          | (go_at_call 58; refine (kfa.out _ (hE.alloc _)).mono ?_; rintro e w1 ⟨rfl, hb1⟩
             have hW1 : Below w.heap.size w w1 := hB1.trans (hb1.mono (by simp))
             obtain ⟨g0, g1⟩ := blkG (Blk.below (Blk.new w 27 #[.int .i64 N, .slice A m c]) hb1 hlt))
          | (go_at_call 59; refine (kg.out _ (hE.below hW1 (Nat.le_refl _)) hW1.size).mono ?_; rintro e w2 ⟨A2, n2, c2, rfl, hc2, hr2, hb2, hn2⟩
             have i3 : (mo : Int) < (n2 : Int) := by have := hr2.len; rw [List.length_map] at this; have := hov'.out; omega)
          | fail)
        go_ret2
        exact ⟨none, 0, 0, rfl, Nat.le_refl _, RL.none_, hW1.trans (hb2.mono hW1.size)⟩
      · rw [if_neg hov] at hPL
        rw [hPL, if_pos rfl] at hLL
        rw [hLL, hPL]
        have hov' := Lib.hid hov
        clear hPL hLL h0 h00 z0 z1 z2 z3 z4 hmo hov
        go_enter Tryd.func34, Tryd.ntmps34
        go_wp2_with (first
          | (go_at_call 58; refine (kfa.out _ (hE.alloc _)).mono ?_; rintro e w1 ⟨rfl, hb1⟩
             have hW1 : Below w.heap.size w w1 := hB1.trans (hb1.mono (by simp))
             obtain ⟨g0, g1⟩ := blkG (Blk.below (Blk.new w 27 #[.int .i64 N, .slice A m c]) hb1 hlt))
          | (go_at_call 59; refine (kg.out _ (hE.below hW1 (Nat.le_refl _)) hW1.size).mono ?_; rintro e w2 ⟨A2, n2, c2, rfl, hc2, hr2, hb2, hn2⟩
             have i3 : ¬ (mo : Int) < (n2 : Int) := by have := hr2.len; rw [List.length_map] at this; have := hov'.out; omega)
          | fail)
        go_ret2
        exact ⟨A2, n2, c2, rfl, hc2, hr2, hW1.trans (hb2.mono hW1.size)⟩
set_option maxRecDepth 100000 in
set_option maxHeartbeats 2000000 in
theorem r28red_any (A : Option Addr) (m c : Nat) (n : Int) (es : List (Int × Int)) (k least : Int) (w : World) (hE : RE w A m es) (hm : m ≤ 68719476736) :
    Calls Tryd.prog 35 #[.agg #[.int .i64 n, .slice A m c], .int .i64 k, .int .i64 least] w fun e w' => ∃ l, RetL w l (errP n es k least) e w' ∧ RedL n es k least l := by
  have kfa := fun w h => r28fault_any A m c n es k least w h (by omega)
  have hB1 : Below w.heap.size w (w.alloc (.cells #[.int .i64 n, .slice A m c] 27)) := (Below.refl _ w).alloc (Nat.le_refl _) _
  have hlt : w.heap.size < (w.alloc (.cells #[.int .i64 n, .slice A m c] 27)).heap.size := by simp
  by_cases h0 : errP n es k least = 0
  · obtain ⟨z0, z1, z2, z3, z4⟩ := errP_zero h0
    have hr : ∀ l, CoreL n es (least - k) l → RedL n es k least l := fun l h => ⟨fun _ => h, fun h' => absurd h0 h'⟩
    have kk := fun w h => rCore_any A m c n es (least - k) w h hm
    simp only [z0] at kk
    simp only [h0] at kfa
    rw [h0]
    replace kfa := Lib.hid kfa
    replace kk := Lib.hid kk
    replace hr := Lib.hid hr
    clear h0 z0
    go_enter Tryd.func35, Tryd.ntmps35
    go_wp2_with (first
      | (go_at_call 58; refine (kfa.out _ (hE.alloc _)).mono ?_; rintro e w1 ⟨rfl, hb1⟩
         have hW1 : Below w.heap.size w w1 := hB1.trans (hb1.mono (by simp))
         obtain ⟨g0, g1⟩ := blkG (Blk.below (Blk.new w 27 #[.int .i64 n, .slice A m c]) hb1 hlt))
      | (go_at_call 37; refine (kk.out _ (hE.below hW1 (Nat.le_refl _))).mono ?_; rintro e w2 ⟨l, ⟨A2, n2, c2, rfl, hc2, hr2, hb2, hf2⟩, hl⟩)
      | fail)
    go_ret2
    exact ⟨l, ⟨A2, n2, c2, rfl, hc2, hr2, hW1.trans (hb2.mono hW1.size), hf2.mono hW1.size⟩, hr.out l hl⟩
  · have hq : (errP n es k least != 0) = true := by simpa using h0
    have hr : RedL n es k least [] := ⟨fun h => absurd h h0, fun _ => rfl⟩
    generalize errP n es k least = z at *
    replace kfa := Lib.hid kfa
    replace hr := Lib.hid hr
    clear h0
    go_enter Tryd.func35, Tryd.ntmps35
    go_wp2_with (first
      | (go_at_call 58; refine (kfa.out _ (hE.alloc _)).mono ?_; rintro e w1 ⟨rfl, hb1⟩; have hW1 : Below w.heap.size w w1 := hB1.trans (hb1.mono (by simp)))
      | fail)
    go_ret2
    exact ⟨[], ⟨none, 0, 0, rfl, Nat.le_refl _, RI.none_, hW1, Fr.none_⟩, hr.out⟩

theorem head_first {L : List (List Nat)} {f : List Nat → Bool} {i : Nat} {S : List Nat} (h : L[i]? = some S) (hf : ∀ T ∈ L.take i, f T = false) (hS : f S = true) : (L.filter f).head? = some S := by
  obtain ⟨hi, hS'⟩ := List.getElem?_eq_some_iff.1 h
  have e : L.filter f = (L.take i).filter f ++ (L.drop i).filter f := by rw [← List.filter_append, List.take_append_drop]
  rw [e, filter_none hf, List.nil_append, List.drop_eq_getElem_cons hi, hS', List.filter_cons, if_pos hS]; rfl
set_option maxRecDepth 100000 in
set_option maxHeartbeats 2000000 in
theorem r28next_any (A : Option Addr) (m c : Nat) (n : Int) (es : List (Int × Int)) (k least : Int) (Aa : Option Addr) (na ca : Nat) (after : List Int) (w : World) (hE : RE w A m es) (hm : m ≤ 274877906944) (ha : RI w Aa na after) (hna : na ≤ 1099511627776) (hn8 : chkG n es = 0 → n ≤ 8) :
    Calls Tryd.prog 31 #[.agg #[.int .i64 n, .slice A m c], .int .i64 k, .int .i64 least, .slice Aa na ca] w (RetN w (nextO n es k least after) (errP n es k least)) := by
  have kfa := fun w h => r28fault_any A m c n es k least w h hm
  have hB1 : Below w.heap.size w (w.alloc (.cells #[.int .i64 n, .slice A m c] 27)) := (Below.refl _ w).alloc (Nat.le_refl _) _
  have hlt : w.heap.size < (w.alloc (.cells #[.int .i64 n, .slice A m c] 27)).heap.size := by simp
  by_cases h0 : errP n es k least ≠ 0
  · have hfl : nextO n es k least after = none := by unfold nextO; rw [if_neg h0]
    rw [hfl]
    have hq : (errP n es k least != 0) = true := by simpa using h0
    generalize errP n es k least = z at *
    clear hfl h0
    replace kfa := Lib.hid kfa
    go_enter Tryd.func31, Tryd.ntmps31
    go_wp2_with (first | (go_at_call 58; refine (kfa.out _ (hE.alloc _)).mono ?_; rintro e w1 ⟨rfl, hb1⟩) | fail)
    refine bodyPost_ret (v := .tuple #[.slice none 0 0, .bool false, .int .i64 z]) (by simp [results, Tryd.results31, go_sem]) rfl ?_
    exact ⟨none, 0, 0, rfl, Nat.le_refl _, RI.none_, hB1.trans (hb1.mono (by simp))⟩
  · have h00 : errP n es k least = 0 := by omega
    obtain ⟨z0, z1, z2, z3, z4⟩ := errP_zero h00
    obtain ⟨N, rfl⟩ := Int.eq_ofNat_of_zero_le (chkG_zero z0).1
    obtain ⟨kk, rfl⟩ := Int.eq_ofNat_of_zero_le (show 0 ≤ k by omega)
    obtain ⟨ls, rfl⟩ := Int.eq_ofNat_of_zero_le (show 0 ≤ least by omega)
    have hNO : nextO N es kk ls after = ((plexs N es kk ls []).filter (gt after)).head? := by
      unfold nextO; rw [if_pos h00, ← plexs_gt]; rfl
    rw [hNO, h00]
    obtain ⟨o, ho⟩ : ∃ o, o = ((plexs N es kk ls []).filter (gt after)).head? := ⟨_, rfl⟩
    rw [← ho]
    rw [h00] at kfa
    replace kfa := Lib.hid kfa
    have kg := fun w' hE' hB => r28all0_any A m c N es hm z0 (by have := hn8 z0; omega) kk ls w.heap.size (by omega) (by omega) (by omega) (fun ad e hp => RE.block_lt hE hp ad e) w' hE' hB
    have hsz : Hid (∀ S ∈ plexs N es kk ls [], S.length ≤ 64) := Lib.hid fun S hS => by
      obtain ⟨a1, a2, _⟩ := mem_plexs hS
      have := len_le a1 a2
      have := (chkG_zero z0).2.1; omega
    generalize plexs N es kk ls [] = L at *
    replace kg := Lib.hid kg
    replace ho := Lib.hid ho
    clear hNO h0 h00 z0 z1 z2 z3 z4
    go_enter Tryd.func31, Tryd.ntmps31
    go_wp2_with (first
      | (go_at_call 58; refine (kfa.out _ (hE.alloc _)).mono ?_; rintro e w1 ⟨rfl, hb1⟩
         have hW1 : Below w.heap.size w w1 := hB1.trans (hb1.mono (by simp))
         obtain ⟨g0, g1⟩ := blkG (Blk.below (Blk.new w 27 #[.int .i64 N, .slice A m c]) hb1 hlt))
      | (go_at_call 59; refine (kg.out _ (hE.below hW1 (Nat.le_refl _)) hW1.size).mono ?_; rintro e w2 ⟨A2, n2, c2, rfl, hc2, hr2, hb2, hn2⟩)
      | fail)
    have hW2 := hW1.trans (hb2.mono hW1.size)
    have ha2 := ha.below hW2 (Nat.le_refl _)
    have hl2 : Hid (n2 = L.length) := Lib.hid (by have := hr2.len; rw [List.length_map] at this; exact this.symm)
    clear g0 g1 kfa kg hb1 hb2 hB1 hlt
    go_loopw [13] (fun i wr => ∃ k1 q : Nat, k1 ≤ n2 ∧ i = .int .i64 k1 ∧ Hid (∀ T ∈ L.take k1, gt after T = false) ∧ wr = w2.drewN q) (fun i _ => n2 - (intOf i).toNat)
    case atStart => exact ⟨0, 0, Nat.zero_le _, rfl, Lib.hid (by simp), rfl⟩
    case round =>
      obtain ⟨k1, q, hk1, rfl, hA, rfl⟩ := hrel
      by_cases hlt1 : k1 < n2
      · have i1 : (k1 : Int) < (n2 : Int) := by omega
        obtain ⟨ad, A5, n5, c5, ys, rfl, hcell, hys, hn5, hr5, -⟩ := (hr2.drewN q).get hlt1
        obtain ⟨S, hS, rfl⟩ : ∃ S, L[k1]? = some S ∧ nt S = ys := by
          have := hys.out
          rw [List.getElem?_map, Option.map_eq_some_iff] at this
          exact this
        have hcq : ∀ j, (w2.drewN j).cell? (ad.add k1) = some (.slice A5 n5 c5) := fun j => hcell
        have hr5' := rs_ri.1 hr5
        have hn64 : n5 ≤ 64 := by have h1 := hr5'.len; rw [nt_length] at h1; have := hsz.out S (List.mem_of_getElem? hS); omega
        have kc := cmp2_any A5 Aa n5 c5 na ca (nt S) after (w2.drewN q) hr5' (by omega) (ha2.drewN q) hna
        have hg : gt after S = decide (0 < cmpL (nt S) after) := rfl
        generalize cmpL (nt S) after = C at *
        by_cases hC : 0 < C
        · have hfin : Hid (o = some S) := Lib.hid (by rw [ho.out]; exact head_first hS hA.out (by rw [hg, decide_eq_true hC]))
          replace kc := Lib.hid kc
          clear hg hS hys hr5 hA
          go_wp2_with (first | (go_at_call 25; refine kc.out.mono ?_; rintro e wx ⟨rfl, qx, rfl⟩) | fail)
          go_ret3
          refine ⟨A5, n5, c5, by rw [hfin.out]; rfl, hn5, ?_, below_drewN hW2 _⟩
          rw [hfin.out]; exact RI.drewN (w := w2) hr5' _
        · have hA2 : Hid (∀ T ∈ L.take (k1 + 1), gt after T = false) := Lib.hid fun T hT => by
            rw [List.take_add_one, hS, List.mem_append] at hT
            rcases hT with hT | hT
            · exact hA.out T hT
            · rw [Option.toList_some, List.mem_singleton] at hT; rw [hT, hg, decide_eq_false hC]
          replace kc := Lib.hid kc
          clear hg hS hys hr5 hA
          go_wp2_with (first | (go_at_call 25; refine kc.out.mono ?_; rintro e wx ⟨rfl, qx, rfl⟩) | fail)
          go_roundw
          case rel => exact ⟨k1 + 1, q + qx, by omega, by go_num, hA2, by first | rfl | rw [World.drewN_drewN]⟩
          case measure => simp [intOf]; omega
      · have i1 : ¬ (k1 : Int) < (n2 : Int) := by omega
        have hfin : Hid (o = none) := Lib.hid (by
          have := hA.out
          rw [ho.out]
          rw [List.take_of_length_le (by have := hl2.out; omega)] at this
          rw [filter_none this]; rfl)
        go_wp2_with fail
        go_ret3
        refine ⟨none, 0, 0, by rw [hfin.out]; rfl, Nat.le_refl _, ?_, below_drewN hW2 _⟩
        rw [hfin.out]; exact RI.none_
end Go.Proofs.YtfefginhlliccaaDoor.Pl
