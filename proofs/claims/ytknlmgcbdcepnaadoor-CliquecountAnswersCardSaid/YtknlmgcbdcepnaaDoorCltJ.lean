/- Printed by merge.py from CltE, CltF, CltH, CltI, CltJ. -/
import Derived.Test.YtknlmgcbdcepnaaDoorCltD
import Derived.Test.YtknlmgcbdcepnaaDoorLwhB
import Derived.Test.YtknlmgcbdcepnaaDoorSma
/- Reference 25: count from nothing, Nodes, Edges. -/
set_option linter.unusedVariables false
set_option linter.unusedSimpArgs false
namespace CoCli
section
variable {a : Nat → Nat → Bool}
theorem rg_le {f g : List Nat → Nat} (h : ∀ S, f S ≤ g S) : ∀ (k : Nat) (L p : List Nat), rg a f k L p ≤ rg a g k L p := by
  intro k
  induction k with
  | zero => intro L p; exact h p
  | succ k ih =>
    intro L p
    induction L with
    | nil => exact Nat.le_refl _
    | cons v L ihL =>
      rw [rg_cons, rg_cons]
      refine Nat.add_le_add ?_ ihL
      by_cases hf : fitA a p v = true
      · rw [if_pos hf, if_pos hf]; exact ih _ _
      · rw [if_neg hf, if_neg hf]; exact Nat.le_refl _
theorem rg_start (k n : Nat) : rg a (fun _ => 1) k (List.range n) [] = cl a k (List.range n) := by rw [rg_one, filter_fit_nil]
end
end CoCli
namespace Go.Proofs.YtknlmgcbdcepnaaDoor
open Go.RowKit CoBit CoCli Pl

theorem rg_bd {a : Nat → Nat → Bool} {n k : Nat} (hn : n ≤ 64) (hk : k ≤ 6) : rg a (fun _ => 1) k (List.range n) [] ≤ 1099511627776 := by
  rw [rg_one, filter_fit_nil]
  have h1 := cl_le_ch a k (List.range n)
  rw [List.length_range] at h1
  have h2 := ch_mono k hn
  have h3 := ch_le 64 k
  have h4 : (64 + 1) ^ k ≤ 65 ^ 6 := Nat.pow_le_pow_right (by omega) hk
  have h5 : 65 ^ 6 ≤ 1099511627776 := by decide +kernel
  omega
theorem afl_zero (n : Nat) : afl n (fun _ => 0) = List.replicate n 0 := by
  refine List.ext_getElem? fun j => ?_
  by_cases hj : j < n
  · rw [afl_at _ hj, List.getElem?_replicate, if_pos hj]; rfl
  · rw [List.getElem?_eq_none (by rw [afl_length]; omega), List.getElem?_replicate, if_neg hj]
theorem afl_nod {n : Nat} {es : List (Int × Int)} (hc : chkG n es = 0) (k : Nat) : afl n (fun x => rg (ad (rowsL n es)) (wN x) (k + 1) (List.range n) []) = nodL n es k := by
  unfold afl nodL
  refine List.map_congr_left fun x hx => ?_
  have h := rg_node (ad_sym hc) (ad_irr' hc) k (List.nodup_range (n := n)) hx
  show ((rg (ad (rowsL n es)) (wN x) (k + 1) (List.range n) [] : Nat) : Int) = _
  rw [show wN x = fun S => if x ∈ S then 1 else 0 from rfl, h]
theorem afl_edg {n : Nat} {es : List (Int × Int)} (hc : chkG n es = 0) (k : Nat) : afl es.length (fun j => rg (ad (rowsL n es)) (wE (eu es j) (ev es j)) (k + 2) (List.range n) []) = edgC n es k := by
  refine List.ext_getElem? fun j => ?_
  by_cases hj : j < es.length
  · rw [afl_at _ hj]
    obtain ⟨h1, h2, h3⟩ := ends_lt hc hj
    have had : ad (rowsL n es) (eu es j) (ev es j) = true := (rows_bit (chkE_lt (chkG_zero hc).2.2) _ _).2 (.inl (List.mem_of_getElem? h3))
    have h := rg_edge (ad_sym hc) (ad_irr' hc) k (List.nodup_range (n := n)) (List.mem_range.2 (Nat.lt_trans h1 h2)) (List.mem_range.2 h2) had
    unfold edgC
    rw [List.getElem?_map, h3]
    show some _ = some _
    congr 2
  · rw [List.getElem?_eq_none (by rw [afl_length]; omega), List.getElem?_eq_none (by unfold edgC; rw [List.length_map]; omega)]
/-- count of nothing, with fresh arrays. -/
theorem r25start_any (A : Option Addr) (m c n : Nat) (es : List (Int × Int)) (hm : m ≤ 274877906944) (hc : chkG n es = 0) (size : Nat) (hs6 : size ≤ 6) (gn ge : Nat) (w : World)
    (hE : RE w A m es) (hA : ∀ ad, A = some ad → 0 < m → ad.block < gn ∧ ad.block < ge) (hf : AI w gn (List.replicate n 0)) (hh : AI w ge (List.replicate m 0)) (hne : gn ≠ ge) :
    Calls Tryd.prog 58 #[.agg #[.int .i64 n, .slice A m c], .slice none 0 0, .int .i64 0, .int .i64 size, .slice (some ⟨gn, 0, none⟩) n n, .slice (some ⟨ge, 0, none⟩) m m] w
      (RetCn w gn ge n m (cl (ad (rowsL n es)) size (List.range n)) (fun x => rg (ad (rowsL n es)) (wN x) size (List.range n) []) (fun j => rg (ad (rowsL n es)) (wE (eu es j) (ev es j)) size (List.range n) [])) := by
  have hN : n ≤ 64 := by have := (chkG_zero hc).2.1; omega
  have hb := rg_bd (a := ad (rowsL n es)) hN hs6
  have hn1 : ∀ x, rg (ad (rowsL n es)) (wN x) size (List.range n) [] ≤ 1099511627776 := fun x => Nat.le_trans (rg_le (fun S => by unfold wN; split <;> omega) _ _ _) hb
  have he1 : ∀ u v, rg (ad (rowsL n es)) (wE u v) size (List.range n) [] ≤ 1099511627776 := fun u v => Nat.le_trans (rg_le (fun S => by unfold wE; split <;> omega) _ _ _) hb
  have k := r25count_any A m c n es hm hc size hs6 n 0 (by omega) none 0 0 [] gn ge (fun _ => 0) (fun _ => 0) w hE (fun ad e hp h => by have := hA ad e hp; omega) RI.none_ (fun ad e => by cases e)
    (by unfold AF; rw [afl_zero]; exact hf) (by unfold AF; rw [afl_zero]; exact hh) hne List.Pairwise.nil (fun x hx => by cases hx) List.Pairwise.nil (Nat.zero_le _)
    (by rw [← List.range_eq_range']; exact hb) (fun x => by rw [← List.range_eq_range', Nat.zero_add]; exact hn1 x) (fun j => by rw [← List.range_eq_range', Nat.zero_add]; exact he1 _ _)
  rw [← List.range_eq_range'] at k
  refine k.mono ?_
  rintro e w' ⟨h1, h2, h3, h4⟩
  refine ⟨?_, ?_, ?_, h4⟩
  · rw [h1, ← rg_start]; rfl
  · exact h2.congr fun i _ => Nat.zero_add _
  · exact h3.congr fun i _ => Nat.zero_add _
/-- make([]int, n) as an equation, for drawn regions. -/
theorem make_fun (n : Nat) (hn : n ≤ 1099511627776) : ∃ F : World → World, (∀ w, Sem.run Tryd.prog (Instr.makeSlice 26 (.int .i64 (n : Int)) (.int .i64 (n : Int))) w = .ok (.slice (some ⟨w.heap.size, 0, none⟩) n n) (F w)) ∧ (∀ w, AI (F w) w.heap.size (List.replicate n 0)) ∧ ∀ w : World, w.grownBy (F w) none := by
  have h : ∀ w : World, ∃ w', Sem.run Tryd.prog (Instr.makeSlice 26 (.int .i64 (n : Int)) (.int .i64 (n : Int))) w = .ok (.slice (some ⟨w.heap.size, 0, none⟩) n n) w' ∧ AI w' w.heap.size (List.replicate n 0) ∧ w.grownBy w' none := fun w => by
    obtain ⟨i0, hi0, hz0, hz1, hz2⟩ := info_parts int_info
    obtain ⟨w', hrun, r1, r2⟩ := run_make_full (P := Tryd.prog) w w.heap.size 26 3 i0 _ 1 Tryd.underlying26 hi0 hz0 hz1 .i64 .i64 n (by rw [hz2]; omega) (by unfold maxLen; omega) (Nat.le_refl _)
    refine ⟨w', hrun, ?_, r2⟩
    have := blk_of_own r1
    rw [show (Value.int IntKind.i64 0).cells = #[.int .i64 0] from rfl, Nat.mul_one, toList_madeCells_one] at this
    unfold AI
    have e : ints (List.replicate n 0) = List.replicate n (.int .i64 0) := List.map_replicate
    rw [e]; exact this
  exact ⟨fun w => Classical.choose (h w), fun w => (Classical.choose_spec (h w)).1, fun w => (Classical.choose_spec (h w)).2.1, fun w => (Classical.choose_spec (h w)).2.2⟩
theorem errC_cases (n : Int) (es : List (Int × Int)) (size least : Int) : (chkG n es ≠ 0 ∧ errC n es size least = chkG n es) ∨ (chkG n es = 0 ∧ size < least ∧ errC n es size least = 1) ∨ (chkG n es = 0 ∧ ¬ size < least ∧ 6 < size ∧ errC n es size least = 1) ∨ (chkG n es = 0 ∧ ¬ size < least ∧ ¬ 6 < size ∧ errC n es size least = 0) := by
  unfold errC
  by_cases h0 : chkG n es = 0
  · rw [if_neg (by simp [h0])]
    by_cases h1 : size < least
    · exact .inr (.inl ⟨h0, h1, if_pos (.inl h1)⟩)
    · by_cases h2 : 6 < size
      · exact .inr (.inr (.inl ⟨h0, h1, h2, if_pos (.inr h2)⟩))
      · exact .inr (.inr (.inr ⟨h0, h1, h2, if_neg (by omega)⟩))
  · exact .inl ⟨h0, if_pos h0⟩
theorem re_fresh {w : World} {A : Option Addr} {m : Nat} {es : List (Int × Int)} (h : RE w A m es) (hp : 0 < m) : ∀ ad, A = some ad → ad.block < w.heap.size := fun ad e => by
  obtain ⟨ad', e', h', _⟩ := h.2 hp
  rw [e] at e'
  injection e' with e'
  subst e'
  exact h'
end Go.Proofs.YtknlmgcbdcepnaaDoor

/- Reference 25: Nodes, Edges. -/
set_option linter.unusedVariables false
set_option linter.unusedSimpArgs false
namespace Go.Proofs.YtknlmgcbdcepnaaDoor
open Go.RowKit CoBit CoCli Pl
attribute [local irreducible] wpStill in
set_option maxRecDepth 100000 in
set_option maxHeartbeats 4000000 in
theorem r25nodes_any (A : Option Addr) (m c : Nat) (n size : Int) (es : List (Int × Int)) (w : World) (h : RE w A m es) (hm : m ≤ 68719476736) :
    Calls Tryd.prog 31 #[.agg #[.int .i64 n, .slice A m c], .int .i64 size] w (RetL w (nodsL n es size) (errC n es size 1)) := by
  have k1 := fun w h => rcheck_any A m c n es w h (by omega)
  rcases errC_cases n es size 1 with ⟨z0, z⟩ | ⟨z0, z1, z⟩ | ⟨z0, z1, z2, z⟩ | ⟨z0, z1, z2, z⟩
  · have hl : nodsL n es size = [] := by unfold nodsL; rw [if_neg (by rw [z]; exact z0)]
    rw [hl, z]
    generalize hq : chkG n es = q at *
    have hb : (q != 0) = true := by rw [bne_iff_ne]; exact z0
    replace k1 := Lib.hid k1
    clear z hl hq z0
    go_enter Tryd.func31, Tryd.ntmps31
    go_wp2_with fail
    refine (k1.out _ (h.alloc _)).mono ?_
    rintro e w1 ⟨rfl, hb1⟩
    have hb0 : Below w.heap.size w w1 := ((Below.refl _ _).alloc (Nat.le_refl _) _).trans (hb1.mono (by simp))
    clear hb1
    go_wp2_with fail
    go_ret2
    exact ⟨none, 0, 0, rfl, Nat.le_refl _, RI.none_, hb0, Fr.none_⟩
  · have hl : nodsL n es size = [] := by unfold nodsL; rw [if_neg (by rw [z]; decide)]
    rw [hl, z]
    rw [z0] at k1
    replace k1 := Lib.hid k1
    clear z hl z0
    go_enter Tryd.func31, Tryd.ntmps31
    go_wp2_with fail
    refine (k1.out _ (h.alloc _)).mono ?_
    rintro e w1 ⟨rfl, hb1⟩
    have hb0 : Below w.heap.size w w1 := ((Below.refl _ _).alloc (Nat.le_refl _) _).trans (hb1.mono (by simp))
    clear hb1
    go_wp2_with fail
    go_ret2
    exact ⟨none, 0, 0, rfl, Nat.le_refl _, RI.none_, hb0, Fr.none_⟩
  · have hl : nodsL n es size = [] := by unfold nodsL; rw [if_neg (by rw [z]; decide)]
    rw [hl, z]
    rw [z0] at k1
    replace k1 := Lib.hid k1
    clear z hl z0
    go_enter Tryd.func31, Tryd.ntmps31
    go_wp2_with fail
    refine (k1.out _ (h.alloc _)).mono ?_
    rintro e w1 ⟨rfl, hb1⟩
    have hb0 : Below w.heap.size w w1 := ((Below.refl _ _).alloc (Nat.le_refl _) _).trans (hb1.mono (by simp))
    clear hb1
    go_wp2_with fail
    go_ret2
    exact ⟨none, 0, 0, rfl, Nat.le_refl _, RI.none_, hb0, Fr.none_⟩
  · obtain ⟨n0, n1, _⟩ := chkG_zero z0
    obtain ⟨n, rfl⟩ := Int.eq_ofNat_of_zero_le n0
    obtain ⟨k, hk⟩ := Int.eq_ofNat_of_zero_le (show 0 ≤ size - 1 by omega)
    obtain ⟨s, hs⟩ : ∃ s : Nat, s = k + 1 := ⟨_, rfl⟩
    obtain rfl : size = (s : Int) := by omega
    have hcl : nodsL n es (s : Int) = afl n (fun x => rg (ad (rowsL n es)) (wN x) s (List.range n) []) := by
      unfold nodsL; rw [if_pos z, hs, afl_nod z0]; congr 1; omega
    rw [hcl, z]
    rw [z0] at k1
    have hgm : Hid (chkG (n : Int) es = 0) := Lib.hid z0
    have hs6 : s ≤ 6 := by omega
    have kst := Lib.hid (fun gn ge w => r25start_any A m c n es (by omega) z0 s hs6 gn ge w)
    replace k1 := Lib.hid k1
    clear z0 z hcl hk hs
    go_enter Tryd.func31, Tryd.ntmps31
    go_wp2_with fail
    refine (k1.out _ (h.alloc _)).mono ?_
    rintro e w1 ⟨rfl, hb1⟩
    have G1 : Blk w1 w.heap.size 24 #[.int .i64 n, .slice A m c] := Blk.below (Blk.new _ _ _) hb1 (by simp)
    have hb0 : Below w.heap.size w w1 := ((Below.refl _ w).alloc (Nat.le_refl _) _).trans (hb1.mono (by simp))
    have hr1 := RE.below h hb0 (Nat.le_refl _)
    have s1 := hb1.size
    simp at s1
    obtain ⟨c10, c11⟩ := blkG G1
    clear hb1
    go_upto_region 7 with (at_make; refine wpList_makeI rfl _ _ rfl rfl rfl (n := n) (by omega) (by omega) (by omega) ?_; intro w2 hA2 hg2)
    have hb12 := grown_none_below hg2 w1.heap.size (Nat.le_refl _)
    have G2 := G1.below hb12 G1.lt
    obtain ⟨c20, c21⟩ := blkG G2
    have hr2 := RE.below hr1 hb12 (Nat.le_refl _)
    have s2 := hA2.lt
    obtain ⟨F, hF0, hF1, hF2⟩ := make_fun m (by omega)
    have hb23 : Below w2.heap.size w2 (F w2.drew) := ((Below.refl w2.heap.size w2).drew).trans (grown_none_below (w := w2.drew) (hF2 w2.drew) w2.heap.size (Nat.le_refl _))
    have hr3 := RE.below hr2 hb23 (Nat.le_refl _)
    have hA3 : AI (F w2.drew) w2.heap.size _ := hF1 w2.drew
    have hA23 := AI.below hA2 hb23 s2
    have c30 := (hb23.cell (p := ⟨w.heap.size, 0, none⟩) (by simp; omega)).trans c20
    have c31 := (hb23.cell (p := ⟨w.heap.size, 1, none⟩) (by simp; omega)).trans c21
    replace hF1 := Lib.hid hF1
    replace hF2 := Lib.hid hF2
    go_region_law (first
      | (go_simp; go_at_call 58; with_reducible refine (kst.out w1.heap.size w2.heap.size _ hr3 (fun ad e hp => by have := re_fresh h hp ad e; omega) hA23 hA3 (by omega)).mono ?_; intro e w4 hq; unfold RetCn at hq; obtain ⟨rfl, hf4, hh4, hs4⟩ := hq)
      | fail)
    all_goals
      go_wp2_with fail
      go_ret2
      refine ⟨some ⟨w1.heap.size, 0, none⟩, n, n, rfl, Nat.le_refl _, AF.ri hf4, ((hb0.trans (hb12.mono hb0.size)).trans (hb23.mono (by omega))).trans (hs4.below (by have := hb23.size; omega) (fun k hk => by omega)), fun ad e => by injection e with e; subst e; simp; omega⟩
attribute [local irreducible] wpStill in
set_option maxRecDepth 100000 in
set_option maxHeartbeats 4000000 in
theorem r25edges_any (A : Option Addr) (m c : Nat) (n size : Int) (es : List (Int × Int)) (w : World) (h : RE w A m es) (hm : m ≤ 68719476736) :
    Calls Tryd.prog 33 #[.agg #[.int .i64 n, .slice A m c], .int .i64 size] w (RetL w (edgsC n es size) (errC n es size 2)) := by
  have k1 := fun w h => rcheck_any A m c n es w h (by omega)
  rcases errC_cases n es size 2 with ⟨z0, z⟩ | ⟨z0, z1, z⟩ | ⟨z0, z1, z2, z⟩ | ⟨z0, z1, z2, z⟩
  · have hl : edgsC n es size = [] := by unfold edgsC; rw [if_neg (by rw [z]; exact z0)]
    rw [hl, z]
    generalize hq : chkG n es = q at *
    have hb : (q != 0) = true := by rw [bne_iff_ne]; exact z0
    replace k1 := Lib.hid k1
    clear z hl hq z0
    go_enter Tryd.func33, Tryd.ntmps33
    go_wp2_with fail
    refine (k1.out _ (h.alloc _)).mono ?_
    rintro e w1 ⟨rfl, hb1⟩
    have hb0 : Below w.heap.size w w1 := ((Below.refl _ _).alloc (Nat.le_refl _) _).trans (hb1.mono (by simp))
    clear hb1
    go_wp2_with fail
    go_ret2
    exact ⟨none, 0, 0, rfl, Nat.le_refl _, RI.none_, hb0, Fr.none_⟩
  · have hl : edgsC n es size = [] := by unfold edgsC; rw [if_neg (by rw [z]; decide)]
    rw [hl, z]
    rw [z0] at k1
    replace k1 := Lib.hid k1
    clear z hl z0
    go_enter Tryd.func33, Tryd.ntmps33
    go_wp2_with fail
    refine (k1.out _ (h.alloc _)).mono ?_
    rintro e w1 ⟨rfl, hb1⟩
    have hb0 : Below w.heap.size w w1 := ((Below.refl _ _).alloc (Nat.le_refl _) _).trans (hb1.mono (by simp))
    clear hb1
    go_wp2_with fail
    go_ret2
    exact ⟨none, 0, 0, rfl, Nat.le_refl _, RI.none_, hb0, Fr.none_⟩
  · have hl : edgsC n es size = [] := by unfold edgsC; rw [if_neg (by rw [z]; decide)]
    rw [hl, z]
    rw [z0] at k1
    replace k1 := Lib.hid k1
    clear z hl z0
    go_enter Tryd.func33, Tryd.ntmps33
    go_wp2_with fail
    refine (k1.out _ (h.alloc _)).mono ?_
    rintro e w1 ⟨rfl, hb1⟩
    have hb0 : Below w.heap.size w w1 := ((Below.refl _ _).alloc (Nat.le_refl _) _).trans (hb1.mono (by simp))
    clear hb1
    go_wp2_with fail
    go_ret2
    exact ⟨none, 0, 0, rfl, Nat.le_refl _, RI.none_, hb0, Fr.none_⟩
  · obtain ⟨n0, n1, _⟩ := chkG_zero z0
    obtain ⟨n, rfl⟩ := Int.eq_ofNat_of_zero_le n0
    obtain ⟨k, hk⟩ := Int.eq_ofNat_of_zero_le (show 0 ≤ size - 2 by omega)
    obtain ⟨s, hs⟩ : ∃ s : Nat, s = k + 2 := ⟨_, rfl⟩
    obtain rfl : size = (s : Int) := by omega
    have hel := h.len
    have hcl : edgsC n es (s : Int) = afl m (fun j => rg (ad (rowsL n es)) (wE (eu es j) (ev es j)) s (List.range n) []) := by
      unfold edgsC; rw [if_pos z, hs, ← hel, afl_edg z0]; congr 1; omega
    rw [hcl, z]
    rw [z0] at k1
    have hgm : Hid (chkG (n : Int) es = 0) := Lib.hid z0
    have hs6 : s ≤ 6 := by omega
    have kst := Lib.hid (fun gn ge w => r25start_any A m c n es (by omega) z0 s hs6 gn ge w)
    replace k1 := Lib.hid k1
    clear z0 z hcl hk hs hel
    go_enter Tryd.func33, Tryd.ntmps33
    go_wp2_with fail
    refine (k1.out _ (h.alloc _)).mono ?_
    rintro e w1 ⟨rfl, hb1⟩
    have G1 : Blk w1 w.heap.size 24 #[.int .i64 n, .slice A m c] := Blk.below (Blk.new _ _ _) hb1 (by simp)
    have hb0 : Below w.heap.size w w1 := ((Below.refl _ w).alloc (Nat.le_refl _) _).trans (hb1.mono (by simp))
    have hr1 := RE.below h hb0 (Nat.le_refl _)
    have s1 := hb1.size
    simp at s1
    obtain ⟨c10, c11⟩ := blkG G1
    clear hb1
    go_upto_region 7 with (at_make; refine wpList_makeI rfl _ _ rfl rfl rfl (n := m) (by omega) (by omega) (by omega) ?_; intro w2 hA2 hg2)
    have hb12 := grown_none_below hg2 w1.heap.size (Nat.le_refl _)
    have G2 := G1.below hb12 G1.lt
    obtain ⟨c20, c21⟩ := blkG G2
    have hr2 := RE.below hr1 hb12 (Nat.le_refl _)
    have s2 := hA2.lt
    obtain ⟨F, hF0, hF1, hF2⟩ := make_fun n (by omega)
    have hb23 : Below w2.heap.size w2 (F w2.drew) := ((Below.refl w2.heap.size w2).drew).trans (grown_none_below (w := w2.drew) (hF2 w2.drew) w2.heap.size (Nat.le_refl _))
    have hr3 := RE.below hr2 hb23 (Nat.le_refl _)
    have hA3 : AI (F w2.drew) w2.heap.size _ := hF1 w2.drew
    have hA23 := AI.below hA2 hb23 s2
    have c30 := (hb23.cell (p := ⟨w.heap.size, 0, none⟩) (by simp; omega)).trans c20
    have c31 := (hb23.cell (p := ⟨w.heap.size, 1, none⟩) (by simp; omega)).trans c21
    replace hF1 := Lib.hid hF1
    replace hF2 := Lib.hid hF2
    go_region_law (first
      | (go_simp; go_at_call 58; with_reducible refine (kst.out w2.heap.size w1.heap.size _ hr3 (fun ad e hp => by have := re_fresh h hp ad e; omega) hA3 hA23 (by omega)).mono ?_; intro e w4 hq; unfold RetCn at hq; obtain ⟨rfl, hf4, hh4, hs4⟩ := hq)
      | fail)
    all_goals
      go_wp2_with fail
      go_ret2
      refine ⟨some ⟨w1.heap.size, 0, none⟩, m, m, rfl, Nat.le_refl _, AF.ri hh4, ((hb0.trans (hb12.mono hb0.size)).trans (hb23.mono (by omega))).trans (hs4.below (by have := hb23.size; omega) (fun k hk => by omega)), fun ad e => by injection e with e; subst e; simp; omega⟩
end Go.Proofs.YtknlmgcbdcepnaaDoor

/- Reference 25: Ahead. -/
set_option linter.unusedVariables false
set_option linter.unusedSimpArgs false
namespace Go.Proofs.YtknlmgcbdcepnaaDoor
open Go.RowKit CoBit CoCli
set_option maxRecDepth 100000 in
set_option maxHeartbeats 4000000 in
theorem r25ahead_any (A : Option Addr) (m c : Nat) (n : Nat) (es : List (Int × Int)) (w : World) (h : RE w A m es) (hm : m ≤ 68719476736) (hz : chkG n es = 0) (hn : n ≤ 64) :
    Calls Tryd.prog 36 #[.agg #[.int .i64 n, .slice A m c]] w fun e w' => ∃ o pl, Per o n ∧ IsOrd n es o ∧ PlcOk n o n pl ∧ RetLL w n (ahdL n es pl) e w' := by
  obtain ⟨i0, hi0, hz0, hz1, hz2⟩ := info_parts int_info
  have k1 := fun w h => rOrder_any A m c n es w h hm
  rw [hz] at k1
  replace k1 := Lib.hid k1
  have hgm : Hid (chkG (n : Int) es = 0) := Lib.hid hz
  clear hz
  go_enter Tryd.func36, Tryd.ntmps36
  go_wp2_with fail
  refine (k1.out _ (h.alloc _)).mono ?_
  rintro e w1 ⟨o, ⟨A1, n1, c1, rfl, hc1, hr1, hb1, hf1⟩, hO⟩
  have hO1 := hO.1 hgm.out
  rw [Int.toNat_natCast] at hO1
  have hPer : Hid (Per o n) := Lib.hid ⟨hO1.2, (ps_range hO1.1).1, (ps_range hO1.1).2⟩
  replace hO := Lib.hid hO
  have G1 : Blk w1 w.heap.size 24 #[.int .i64 n, .slice A m c] := Blk.below (Blk.new _ _ _) hb1 (by simp)
  have hb0 : Below w.heap.size w w1 := ((Below.refl _ _).alloc (Nat.le_refl _) _).trans (hb1.mono (by simp))
  obtain rfl : n1 = n := by rw [← hr1.len]; exact hPer.out.1
  clear hb1 hf1 hO1 k1
  have c0 := Blk.cell G1 0
  simp at c0
  have s1 := hb0.size
  go_wp2_with (at_make; refine wpList_makeI rfl _ _ rfl rfl rfl (n := n1) (by omega) (by omega) (by omega) ?_; intro w2 hA2 hg2)
  have hb2 := grown_none_below hg2 w1.heap.size (Nat.le_refl _)
  have G2 := G1.below hb2 G1.lt
  have hr2 := RI.below hr1 hb2 (Nat.le_refl _)
  have hb02 := hb0.trans (hb2.mono s1)
  have hpl0 : PlcOk n1 o 0 (List.replicate n1 0) := ⟨by simp, fun i v hi => by omega⟩
  have sg := G1.lt
  have hA1 : Hid (∀ ad, A1 = some ad → 0 < n1 → ad.block < w1.heap.size) := Lib.hid fun ad e h0 => by
    obtain ⟨ad', e', hb', _⟩ := (show Reads w1 w1.heap.size 1 A1 n1 (ints o) from hr1).2 h0
    rw [e] at e'
    injection e' with e'
    subst e'
    exact hb'
  clear hg2 hb2 G1 hr1 hb0 c0
  generalize w1.heap.size = gp at *
  go_loopw [7] (fun i wr => ∃ (k : Nat) (pl : List Int), k ≤ n1 ∧ i = .int .i64 k ∧ AI wr gp pl ∧ Hid (PlcOk n1 o k pl) ∧ RI wr A1 n1 o ∧ Blk wr w.heap.size 24 #[.int .i64 n1, .slice A m c] ∧ Below w.heap.size w wr) (fun i _ => n1 - (intOf i).toNat)
  case atStart => exact ⟨0, _, Nat.zero_le _, rfl, hA2, Lib.hid hpl0, hr2, G2, hb02⟩
  case round =>
    obtain ⟨k, pl, hk, rfl, hA, hpl, hr, hG, hb⟩ := hrel
    clear hA2 hpl0 hr2 G2 hb02
    by_cases hlt : k < n1
    · obtain ⟨ad, v, rfl, hv, hcv⟩ := hr.get hlt
      have hv0 := hPer.out.2.2 v (List.mem_of_getElem? hv.out)
      obtain ⟨v, rfl⟩ := Int.eq_ofNat_of_zero_le hv0.1
      have hst := Lib.hid (plc_step hpl.out hv.out (by omega) hPer.out.2.1 hPer.out.2.2)
      have hcp := hA.cell (i := v) (by rw [hpl.out.1]; omega)
      have hfp := hA.frozen v
      have hset := fun y => hA.set v y
      generalize pl.getD v 0 = old at *
      replace hset := Lib.hid hset
      have j0 : (0 : Int) ≤ (v : Int) := Int.natCast_nonneg _
      have j1 : (v : Int) < (n1 : Int) := by omega
      have hne : gp ≠ w.heap.size := by omega
      go_wp2_with fail
      go_roundw
      case rel => exact ⟨k + 1, _, by omega, by go_num, hset.out _, hst, RI.kept hr (grown_set (World.grownBy.refl wr (some gp)) v (.int .i64 (k : Int))) (fun ad' e e2 => by
          have h1 := hA1.out ad' e (by omega)
          injection e2 with e2
          omega), hG.far (p := ⟨gp, v, none⟩) (by simp; omega) _, hb.setCell (p := ⟨gp, v, none⟩) (by simp; omega) _⟩
      case measure => simp [intOf]; omega
    · obtain rfl : k = n1 := by omega
      have c0 := Blk.cell hG 0
      have c1' := Blk.cell hG 1
      simp at c0 c1'
      have sr := hb.size
      have hgp := hA.lt
      go_wp2_with (at_make; refine wpList_makeL rfl _ _ rfl rfl rfl (n := k) (by omega) (by omega) (by omega) ?_; intro w3 hL3 hg3)
      have hb3 := grown_none_below hg3 wr.heap.size (Nat.le_refl _)
      have hA3 := hA.below hb3 hgp
      have hG3 := hG.below hb3 hG.lt
      have hb03 := hb.trans (hb3.mono sr)
      have hL0 : LLs w3 wr.heap.size k 0 (ahdR k es pl) (List.replicate k (.slice none 0 0)) := ⟨hL3, by simp, fun i u hi => by omega, fun i u _ hu => (List.mem_replicate.1 (List.mem_of_getElem? hu)).2⟩
      have hgq := hL3.lt
      clear hg3 hb3 hL3 hA hG hb hr c0 c1'
      generalize wr.heap.size = gq at *
      have hgpq : gp < gq := hgp
      have hgq0 : w.heap.size < gq := by omega
      clear sr hgp
      go_loopw [9] (fun i wr => ∃ (v : Nat) (vs : List Value), v ≤ k ∧ i = .int .i64 v ∧ LLs wr gq k v (ahdR k es pl) vs ∧ AI wr gp pl ∧ Blk wr w.heap.size 24 #[.int .i64 k, .slice A m c] ∧ Below w.heap.size w wr) (fun i _ => k - (intOf i).toNat)
      case atStart => exact ⟨0, _, Nat.zero_le _, rfl, hL0, hA3, hG3, hb03⟩
      case round =>
        obtain ⟨v, vs, hv, rfl, hL, hA, hG, hb⟩ := hrel
        clear hL0 hA3 hG3 hb03
        by_cases hvk : v < k
        · obtain ⟨d0, d1⟩ := (⟨Blk.cell hG 0, Blk.cell hG 1⟩ : wr.cell? ⟨w.heap.size, 0, none⟩ = some (.int .i64 k) ∧ wr.cell? ⟨w.heap.size, 1, none⟩ = some (.slice A m c))
          go_wp2_with fail
          refine (neigh_any A m c k es v wr (h.below hb (Nat.le_refl _)) (by omega)).mono ?_
          rintro e w9 ⟨A9, n9, c9, rfl, hc9, hr9, hb9, hf9⟩
          have hL9 := hL.grown hb9
          have hA9 := hA.below hb9 hA.lt
          have hG9 := hG.below hb9 hG.lt
          have hb09 := hb.trans (hb9.mono hb.size)
          have hgq9 : gq < wr.heap.size := hL.1.lt
          have hs9 := hb9.size
          have hl9 := Lib.hid hr9.len
          have hf9' := Lib.hid hf9
          obtain ⟨u0, hu0, hcu0⟩ := hL9.cell hvk
          have hu0' := hL9.2.2.2 v u0 (Nat.le_refl _) hu0
          subst hu0'
          have hvs0 : vs.set v (.slice none 0 0) = vs := by
            obtain ⟨h1, h2⟩ := List.getElem?_eq_some_iff.1 hu0
            rw [← h2, List.set_getElem_self]
          have hnb : ∀ x ∈ nbG k es v, 0 ≤ x ∧ x < k := fun x hx => nbG_range hgm.out hx
          replace hnb := Lib.hid hnb
          have hnbd : (nbG k es v).length ≤ 64 := by rw [← row_nb hgm.out hn v, nts_length]; exact bl_length _
          have hahd : ahdR k es pl v = (nbG k es v).filter fun u => decide (pl.getD v 0 < pl.getD u.toNat 0) := rfl
          replace hahd := Lib.hid hahd
          have hn9 : n9 ≤ 64 := by rw [← hl9.out]; exact hnbd
          generalize nbG k es v = nb at *
          have hA9l := hA9.lt
          clear hL hA hG hb hb9 hf9 hu0 hcu0 d0 d1
          go_wp2_with fail
          obtain ⟨wo, rfl⟩ : ∃ wo : World, wo = w9 := ⟨_, rfl⟩
          go_loopw [11] (fun i wr => ∃ (j : Nat) (u : Value), j ≤ n9 ∧ i = .int .i64 j ∧ Blk wr gq 26 (vs.set v u).toArray ∧ OI wr wo.heap.size u ((nb.take j).filter fun u => decide (pl.getD v 0 < pl.getD u.toNat 0)) ∧ wo.grownBy wr (some gq)) (fun i _ => n9 - (intOf i).toNat)
          case atStart => exact ⟨0, .slice none 0 0, Nat.zero_le _, rfl, by rw [hvs0]; exact hL9.1, OI.nil_, World.grownBy.refl _ _⟩
          case round =>
            obtain ⟨j, u, hj, rfl, hB, ho, hgr⟩ := hrel
            have hAr := hA9.grown hgr (by intro e; injection e with e; omega)
            have hsr := hgr.size
            by_cases hjn : j < n9
            · obtain ⟨ad9, x, e9, hx, hcx⟩ := (RI.kept hr9 hgr (fun ad e e2 => by have := hf9'.out ad e; injection e2 with e2; omega)).get hjn
              have hx0 := hnb.out x (List.mem_of_getElem? hx.out)
              obtain ⟨x, rfl⟩ := Int.eq_ofNat_of_zero_le hx0.1
              have p1 := hAr.cell (i := x) (by rw [hpl.out.1]; omega)
              have p2 := hAr.cell (i := v) (by rw [hpl.out.1]; omega)
              have htk : nb.take (j + 1) = nb.take j ++ [(x : Int)] := take_at hx.out
              have hfl : (nb.take (j + 1)).filter (fun u => decide (pl.getD v 0 < pl.getD u.toNat 0)) = if pl.getD v 0 < pl.getD x 0 then (nb.take j).filter (fun u => decide (pl.getD v 0 < pl.getD u.toNat 0)) ++ [(x : Int)] else (nb.take j).filter (fun u => decide (pl.getD v 0 < pl.getD u.toNat 0)) := by
                rw [htk, List.filter_append]
                by_cases hlt : pl.getD v 0 < pl.getD x 0
                · rw [if_pos hlt, List.filter_cons, if_pos (by simpa using hlt)]; rfl
                · rw [if_neg hlt, List.filter_cons, if_neg (by simpa using hlt)]; simp
              have hfn : ((nb.take j).filter fun u => decide (pl.getD v 0 < pl.getD u.toNat 0)).length ≤ 64 := Nat.le_trans (List.length_filter_le _ _) (by rw [List.length_take]; omega)
              have j0 : (0 : Int) ≤ (x : Int) := Int.natCast_nonneg _
              have j1 : (x : Int) < (k : Int) := by omega
              have j2 : (0 : Int) ≤ (v : Int) := Int.natCast_nonneg _
              have j3 : (v : Int) < (k : Int) := by omega
              have hq : (decide (pl.getD v 0 < pl.getD x 0) = true ∧ pl.getD v 0 < pl.getD x 0) ∨ (decide (pl.getD v 0 < pl.getD x 0) = false ∧ ¬ pl.getD v 0 < pl.getD x 0) := by
                by_cases hlt : pl.getD v 0 < pl.getD x 0
                · exact .inl ⟨by simpa using hlt, hlt⟩
                · exact .inr ⟨by simpa using hlt, hlt⟩
              subst e9
              clear htk
              rcases hq with ⟨q1, q2⟩ | ⟨q1, q2⟩
              · rw [if_pos q2] at hfl
                clear q2
                generalize pl.getD x 0 = PX at *
                generalize hpv : pl.getD v 0 = PV at *
                replace hpv := Lib.hid hpv
                replace hfl := Lib.hid hfl
                have hbc := Blk.cell hB v
                have hvl : v < vs.length := by rw [hL9.2.1]; exact hvk
                have hbc' : wr.cell? ⟨gq, v, none⟩ = some u := by rw [hbc]; simp [hvl]
                clear hbc
                have hfz := Blk.frozen hB v
                go_wp2_with fail
                go_quiet (fail)
                clear p1 p2 q1
                have hgqo : gq < wo.heap.size := by omega
                generalize ((nb.take j).filter fun u => decide (PV < pl.getD u.toNat 0)) = F at *
                obtain ⟨Au, nu, cu, rfl, hnu, hcu, _, _⟩ := ho.form
                replace hnu := Lib.hid hnu
                go_upto_region 18 with fail
                have hBz := hB.drewN nq
                have hoz := ho.drewN nq
                have hgrz := grown_drewN hgr nq
                have hcxz : (wr.drewN nq).cell? (ad9.add j) = some (.int .i64 x) := hcx
                have hAz := hAr.drewN nq
                have hszz : wo.heap.size ≤ (wr.drewN nq).heap.size := hsr
                clear hB ho hgr hcx hAr hsr hbc' hfz
                generalize wr.drewN nq = wz at *
                have hbc := Blk.cell hBz v
                have hbc' : wz.cell? ⟨gq, v, none⟩ = some (.slice Au nu cu) := by rw [hbc]; simp [hvl]
                clear hbc
                have hgql := hBz.lt
                have hbca : ∀ o, (wz.alloc o).cell? ⟨gq, v, none⟩ = some (.slice Au nu cu) := fun o => (World.cell?_alloc_lt wz o ⟨gq, v, none⟩ hgql).trans hbc'
                have hoa : ∀ o, (wz.drew.alloc o).ownsRow wo.heap.size 3 1 (.slice Au nu cu) F.length (ints F) := fun o => hoz.alloc o
                have hob : ∀ o, (wz.alloc o).drew.ownsRow wo.heap.size 3 1 (.slice Au nu cu) F.length (ints F) := fun o => hoz.alloc o
                have hBa : ∀ o, Blk (wz.drew.alloc o) gq 26 (vs.set v (.slice Au nu cu)).toArray := fun o => hBz.alloc o
                have hBb : ∀ o, Blk (wz.alloc o).drew gq 26 (vs.set v (.slice Au nu cu)).toArray := fun o => hBz.alloc o
                have hga : ∀ o, wo.grownBy (wz.drew.alloc o) (some gq) := fun o => grown_alloc (grown_drewN hgrz 1) o
                have hgb : ∀ o, wo.grownBy (wz.alloc o).drew (some gq) := fun o => grown_drewN (grown_alloc hgrz o) 1
                have hbl := Lib.hid hoz.block_lt
                go_region_law (first
                  | (refine step_append_any _ (by rfl) (.tmp 71) (.tmp 76) 26 (by rfl) wo.heap.size 3 i0 _ 1 8 Tryd.underlying26 hi0 hz0 hz1 hz2 rfl (by omega) (.slice Au nu cu) F.length (ints F) (by first | (simp [go_sem]; done) | rfl) (by first | with_reducible exact hoa _ | with_reducible exact hob _) _ (some ⟨wz.heap.size, 0, none⟩) 1 1 (ints [(x : Int)]) (by first | (simp [go_sem]; done) | rfl) (by first | exact RI.one (x : Int) | exact (RI.one (x : Int)).drew) (ints_one _) (by unfold maxLen; omega) (by omega) (by simp; omega) ?_
                     intro v' w4 h1' hg4 hat4
                     have hB4 : Blk w4 gq 26 (vs.set v (.slice Au nu cu)).toArray := Blk.grown (by first | with_reducible exact hBa _ | with_reducible exact hBb _) hg4 (fun e => by have := (hbl.out _ e.symm).1; omega)
                     have hbc4 := Blk.cell hB4 v
                     have hbc5 : w4.cell? ⟨gq, v, none⟩ = some (.slice Au nu cu) := (by rw [hbc4]; simp [hvl])
                     clear hbc4
                     have hfz4 := Blk.frozen hB4 v
                     have hgr4 : wo.grownBy w4 (some gq) := grown_of_new (by first | with_reducible exact hga _ | with_reducible exact hgb _) hg4 (fun k hk => (hbl.out k hk).1)
                     have ho' : OI w4 wo.heap.size v' (F ++ [(x : Int)]) := (by unfold OI; rw [List.length_append, ints_append]; exact h1')
                     obtain ⟨A4, n4, c4, rfl, hn4, hc4, _, _⟩ := ho'.form
                     replace hn4 := Lib.hid hn4)
                  | fail)
                all_goals
                  have hB5 := Blk.set hB4 v (.slice A4 n4 c4)
                  have hse : (vs.set v (.slice Au nu cu)).toArray.setIfInBounds v (.slice A4 n4 c4) = (vs.set v (.slice A4 n4 c4)).toArray := by simp
                  rw [hse] at hB5
                  have ho5 := ho'.set v hgqo (.slice A4 n4 c4)
                  have hgr5 := grown_set hgr4 v (.slice A4 n4 c4)
                  clear hB4 hbc5 hfz4 ho' hg4 hat4 h1' hse hbc'
                  go_wp2_with fail
                  go_roundw
                  case rel => exact ⟨j + 1, _, by omega, by go_num, hB5, by rw [hfl.out]; exact ho5, hgr5⟩
                  case measure => simp [intOf]; omega
              · rw [if_neg q2] at hfl
                clear q2
                generalize pl.getD x 0 = PX at *
                generalize hpv : pl.getD v 0 = PV at *
                replace hpv := Lib.hid hpv
                replace hfl := Lib.hid hfl
                go_wp2_with fail
                go_quiet (fail)
                go_wp2_with fail
                go_roundw
                case rel => exact ⟨j + 1, u, by omega, by go_num, hB.drewN _, by rw [hfl.out]; exact ho.drewN _, grown_drewN hgr _⟩
                case measure => simp [intOf]; omega
            · have hjj : j = n9 := by omega
              subst hjj
              have hall : nb.take j = nb := List.take_of_length_le (by rw [hl9.out]; exact Nat.le_refl _)
              rw [hall, ← hahd.out] at ho
              have hpt := hL9.put hgr hB
              have hrow : RowOk wr gq u (ahdR k es pl v) := by
                obtain ⟨Au, nu, cu, rfl, hnu, hcu, _, hru⟩ := ho.form
                exact ⟨Au, nu, cu, rfl, hcu, hru, (ho.fresh hnu).mono (by omega)⟩
              have hvl : v < vs.length := by rw [hL9.2.1]; exact hvk
              have hLn : LLs wr gq k (v + 1) (ahdR k es pl) (vs.set v u) := by
                refine ⟨hpt.1, hpt.2.1, fun i x hi hx => ?_, fun i x hi hx => hpt.2.2.2 i x (by omega) hx⟩
                by_cases he : i = v
                · subst he
                  rw [List.getElem?_set_self hvl] at hx
                  injection hx with hx
                  exact hx ▸ hrow
                · exact hpt.2.2.1 i x (by omega) hx
              have hGn := hG9.grown hgr (by intro e; injection e with e; omega)
              have hbn := hb09.trans (grown_is_below hgr (by omega) hb09.size)
              clear hB ho hgr hpt hrow
              go_wp2_with fail
              go_roundw
              case rel => exact ⟨v + 1, _, by omega, by go_num, hLn, hAr, hGn, hbn⟩
              case measure => simp [intOf]; omega
        · have hvv : v = k := by omega
          subst hvv
          have hLL : LL wr gq (ahdL v es pl) := by
            refine ⟨vs, hL.1, by rw [hL.2.1]; simp [ahdL], fun i u ys hu hy => ?_⟩
            have hi : i < v := by
              have := (List.getElem?_eq_some_iff.1 hu).1
              rw [hL.2.1] at this; exact this
            have hys : ys = ahdR v es pl i := by
              unfold ahdL at hy
              rw [List.getElem?_map, List.getElem?_range hi] at hy
              injection hy with hy
              exact hy.symm
            rw [hys]
            exact hL.2.2.1 i u hi hu
          obtain ⟨d0, d1⟩ := blkG hG
          clear hL hA hG
          go_wp2_with fail
          go_ret2
          exact ⟨o, pl, hPer.out, hO.out, hpl.out, gq, rfl, by omega, hLL, hb⟩
end Go.Proofs.YtknlmgcbdcepnaaDoor

/- Reference 25: Choose. -/
set_option linter.unusedVariables false
set_option linter.unusedSimpArgs false
namespace CoCli
/-- The row while row number i is made: what stands at kk and behind is new. -/
def rwP (i t : Nat) : Nat := if i = 0 then 0 else ch (i - 1) t
def rwF (i kk t : Nat) : Nat := if kk ≤ t then ch i t else rwP i t
theorem rwP_le {i : Nat} (hi : i ≤ 64) (t : Nat) : rwP i t < 9223372036854775808 := by
  unfold rwP; split
  · omega
  · exact ch64 (by omega) t
theorem rwF_start (i : Nat) : (fun t => if t = i then 1 else rwP i t) = rwF i i := by
  funext t
  unfold rwF rwP
  by_cases h : t = i
  · subst h
    rw [if_pos rfl, if_pos (Nat.le_refl _)]
    have : ∀ t, ch t t = 1 := fun t => by
      induction t with
      | zero => rfl
      | succ t ih => rw [ch_succ, ih, ch_gt (by omega)]
    exact (this t).symm
  · rw [if_neg h]
    by_cases h2 : i ≤ t
    · rw [if_pos h2]
      by_cases h3 : i = 0
      · rw [if_pos h3, h3, ch_gt (by omega)]
      · rw [if_neg h3, ch_gt (by omega), ch_gt (by omega)]
    · rw [if_neg h2]
theorem rwF_end {i kk : Nat} (hk : kk ≤ 1) (hi : kk ≤ i) : rwF i kk = rwP (i + 1) := by
  funext t
  unfold rwF
  have e : rwP (i + 1) t = ch i t := by unfold rwP; rw [if_neg (by omega)]; rfl
  rw [e]
  by_cases h : kk ≤ t
  · rw [if_pos h]
  · rw [if_neg h]
    obtain rfl : t = 0 := by omega
    unfold rwP
    rw [if_neg (by omega), ch_zero, ch_zero]
theorem rwF_step {i j : Nat} (hj : 1 ≤ j) (hi : j < i) : (fun t => if t = j then rwF i (j + 1) j + rwF i (j + 1) (j - 1) else rwF i (j + 1) t) = rwF i j := by
  funext t
  unfold rwF
  by_cases h : t = j
  · subst h
    rw [if_pos rfl, if_neg (by omega), if_neg (by omega), if_pos (Nat.le_refl _)]
    unfold rwP
    rw [if_neg (by omega), if_neg (by omega)]
    obtain ⟨i, rfl⟩ : ∃ i', i = i' + 1 := ⟨i - 1, by omega⟩
    obtain ⟨t, rfl⟩ : ∃ t', t = t' + 1 := ⟨t - 1, by omega⟩
    rw [ch_succ]
    simp only [Nat.add_sub_cancel]
    omega
  · rw [if_neg h]
    by_cases h2 : j + 1 ≤ t
    · rw [if_pos h2, if_pos (by omega)]
    · rw [if_neg h2, if_neg (by omega)]
theorem rwF_sum {i j : Nat} (hj : 1 ≤ j) (hi : j < i) : rwF i (j + 1) j + rwF i (j + 1) (j - 1) = ch i j := by
  have := congrFun (rwF_step hj hi) j
  simp only [if_true] at this
  rw [this]
  unfold rwF
  rw [if_pos (Nat.le_refl _)]
end CoCli
namespace Go.Proofs.YtknlmgcbdcepnaaDoor
open Go.RowKit CoBit CoCli
set_option maxRecDepth 100000 in
set_option maxHeartbeats 2000000 in
theorem r25choose_any (n k : Int) (w : World) :
    Calls Tryd.prog 38 #[.int .i64 n, .int .i64 k] w fun e w' => e = .returned (.int .i64 (chZ n k)) ∧ Below w.heap.size w w' := by
  by_cases hz : n < 0 ∨ 64 < n ∨ k < 0 ∨ n < k
  · have hv : chZ n k = 0 := if_pos hz
    have hw : (decide (n < 0) = true) ∨ (decide (n < 0) = false ∧ decide (64 < n) = true) ∨ (decide (n < 0) = false ∧ decide (64 < n) = false ∧ decide (k < 0) = true) ∨ (decide (n < 0) = false ∧ decide (64 < n) = false ∧ decide (k < 0) = false ∧ decide (n < k) = true) := by
      simp; omega
    replace hv := Lib.hid hv
    clear hz
    rcases hw with q1 | ⟨q1, q2⟩ | ⟨q1, q2, q3⟩ | ⟨q1, q2, q3, q4⟩
    all_goals
      go_enter Tryd.func38, Tryd.ntmps38
      go_wp2_with fail
      go_ret
      exact ⟨retInt hv.out.symm, Below.refl _ _⟩
  · obtain ⟨n, rfl⟩ := Int.eq_ofNat_of_zero_le (show 0 ≤ n by omega)
    obtain ⟨k, rfl⟩ := Int.eq_ofNat_of_zero_le (show 0 ≤ k by omega)
    have hv : chZ n k = (ch n k : Nat) := by unfold chZ; rw [if_neg hz]; simp
    have q1 : decide ((n : Int) < 0) = false := by simp
    have q2 : decide (64 < (n : Int)) = false := by simp; omega
    have q3 : decide ((k : Int) < 0) = false := by simp
    have q4 : decide ((n : Int) < (k : Int)) = false := by simp; omega
    have hn : n ≤ 64 := by omega
    have hk : k ≤ n := by omega
    replace hv := Lib.hid hv
    clear hz
    go_enter Tryd.func38, Tryd.ntmps38
    have q5 : decide (n < k) = false := by simp; omega
    go_wp2_with (at_make; refine wpList_makeI rfl _ _ rfl rfl rfl (n := n + 1) (by omega) (by omega) (by omega) ?_; intro w1 hA1 hg1)
    have hA0 : AF w1 w.heap.size (n + 1) (rwP 0) := by unfold AF; rw [show rwP 0 = fun _ => 0 from rfl, afl_zero]; exact hA1
    have hb0 : Below w.heap.size w w1 := grown_none_below hg1 w.heap.size (Nat.le_refl _)
    clear hA1 hg1
    go_loopw [6] (fun i wr => ∃ (j : Nat), j ≤ n + 1 ∧ i = .int .i64 j ∧ AF wr w.heap.size (n + 1) (rwP j) ∧ Below w.heap.size w wr) (fun i _ => n + 1 - (intOf i).toNat)
    case atStart => exact ⟨0, Nat.zero_le _, rfl, hA0, hb0⟩
    case round =>
      obtain ⟨j, hj, rfl, hA, hb⟩ := hrel
      clear hA0 hb0
      by_cases hlt : j ≤ n
      · have i1 : (j : Int) ≤ (n : Int) := by omega
        have i2 : (0 : Int) ≤ (j : Int) := by omega
        have i3 : (j : Int) < (n : Int) + 1 := by omega
        have hc := hA.cell (i := j) (by omega)
        have hf := hA.frozen j
        have hs := hA.set j 1
        rw [rwF_start] at hs
        have hs' : AF (wr.setCell ⟨w.heap.size, j, none⟩ (.int .i64 1)) w.heap.size (n + 1) (rwF j j) := hs
        have hb' : Below w.heap.size w (wr.setCell ⟨w.heap.size, j, none⟩ (.int .i64 1)) := hb.setCell (p := ⟨w.heap.size, j, none⟩) (Nat.le_refl _) _
        clear hs hA hb
        go_upto_region 9 with fail
        clear hc hf
        generalize wr.setCell ⟨w.heap.size, j, none⟩ (.int .i64 1) = w2 at *
        go_loopw [7] (fun i wr => ∃ (kk : Nat), kk ≤ j ∧ i = .int .i64 ((kk : Int) - 1) ∧ AF wr w.heap.size (n + 1) (rwF j kk) ∧ Below w.heap.size w wr) (fun i _ => (intOf i + 1).toNat)
        case atStart => exact ⟨j, Nat.le_refl _, by go_num, hs', hb'⟩
        case round =>
          obtain ⟨kk, hkk, rfl, hA, hb⟩ := hrel
          clear hs' hb'
          by_cases h1 : 1 < kk
          · obtain ⟨t, rfl⟩ : ∃ t, kk = t + 1 := ⟨kk - 1, by omega⟩
            have e1 : ((t + 1 : Nat) : Int) - 1 = (t : Int) := by omega
            rw [e1]
            have j1 : (0 : Int) < (t : Int) := by omega
            have j2 : (0 : Int) ≤ (t : Int) := by omega
            have j3 : (t : Int) < (n : Int) + 1 := by omega
            have e2 : (t : Int) - 1 = ((t - 1 : Nat) : Int) := by omega
            have e3 : IntKind.i64.wrap ((t : Int) - 1) = ((t - 1 : Nat) : Int) := by rw [e2]; exact IntWalk.i64_in _ ⟨by omega, by omega⟩
            have j4 : (0 : Int) ≤ ((t - 1 : Nat) : Int) := by omega
            have j5 : ((t - 1 : Nat) : Int) < (n : Int) + 1 := by omega
            have c1 := hA.cell (i := t) (by omega)
            have c2 := hA.cell (i := t - 1) (by omega)
            have hf := hA.frozen t
            have hsm := rwF_sum (i := j) (j := t) (by omega) (by omega)
            have hbd := ch64 (n := j) (by omega) t
            have hs := hA.set t (rwF j (t + 1) t + rwF j (t + 1) (t - 1))
            rw [rwF_step (by omega) (by omega)] at hs
            rw [← hsm] at hbd
            have i4 : IntKind.i64.wrap (((rwF j (t + 1) t : Nat) : Int) + ((rwF j (t + 1) (t - 1) : Nat) : Int)) = ((rwF j (t + 1) t + rwF j (t + 1) (t - 1) : Nat) : Int) := by rw [← Int.natCast_add]; exact IntWalk.i64_in _ ⟨by omega, by omega⟩
            have hb3 := (hb.setCell (p := ⟨w.heap.size, t, none⟩) (Nat.le_refl _) (.int .i64 ((rwF j (t + 1) t + rwF j (t + 1) (t - 1) : Nat) : Int))).drew
            have hs3 : AF (wr.setCell ⟨w.heap.size, t, none⟩ (.int .i64 ((rwF j (t + 1) t + rwF j (t + 1) (t - 1) : Nat) : Int))).drew w.heap.size (n + 1) (rwF j t) := hs
            clear hs hA hb hsm hbd e1 e2
            generalize rwF j (t + 1) t + rwF j (t + 1) (t - 1) = V at *
            generalize rwF j (t + 1) t = X at *
            generalize rwF j (t + 1) (t - 1) = Y at *
            go_wp2_with fail
            go_region
            go_wp2_with fail
            go_roundw
            case rel => exact ⟨t, by omega, by go_num, hs3, hb3⟩
            case measure => simp [intOf]; omega
          · have j1 : ¬ (0 : Int) < (kk : Int) - 1 := by omega
            rw [rwF_end (by omega) hkk] at hA
            go_wp2_with fail
            go_roundw
            case rel => exact ⟨j + 1, by omega, by go_num, hA, hb⟩
            case measure => simp [intOf]; omega
      · obtain rfl : j = n + 1 := by omega
        have i1 : ¬ ((n : Int) + 1 ≤ (n : Int)) := by omega
        have ck := hA.cell (i := k) (by omega)
        rw [show rwP (n + 1) k = ch n k from by unfold rwP; rw [if_neg (by omega)]; rfl] at ck
        have i0 : (0 : Int) ≤ (k : Int) := Int.natCast_nonneg _
        have i2 : (k : Int) < (n : Int) + 1 := by omega
        go_wp2_with fail
        go_ret
        exact ⟨retInt hv.out.symm, hb⟩
end Go.Proofs.YtknlmgcbdcepnaaDoor

/- Ahead and Bound, of the package and of the reference, with and without an error. -/
set_option linter.unusedVariables false
set_option linter.unusedSimpArgs false
namespace Go.Proofs.YtknlmgcbdcepnaaDoor
open Go.RowKit CoBit CoCli

def OrdPl (n : Nat) (es : List (Int × Int)) (o pl : List Int) : Prop := Per o n ∧ IsOrd n es o ∧ PlcOk n o n pl
theorem ordpl_unique {n : Nat} {es : List (Int × Int)} {o pl o' pl' : List Int} (h : OrdPl n es o pl) (h' : OrdPl n es o' pl') : pl = pl' := by
  obtain ⟨h1, h2, h3⟩ := h
  obtain ⟨h1', h2', h3'⟩ := h'
  obtain rfl := isOrd_unique h2 h2'
  refine List.ext_getElem? fun v => ?_
  by_cases hv : v < n
  · obtain ⟨i, hi, hiv⟩ := per_ix h1 hv
    have e1 := h3.2 i v hi hiv
    have e2 := h3'.2 i v hi hiv
    rw [Int.toNat_natCast, List.getD_eq_getElem?_getD] at e1 e2
    rw [List.getElem?_eq_getElem (l := pl) (by rw [h3.1]; exact hv)] at e1 ⊢
    rw [List.getElem?_eq_getElem (l := pl') (by rw [h3'.1]; exact hv)] at e2 ⊢
    simp only [Option.getD_some] at e1 e2
    rw [e1, e2]
  · rw [List.getElem?_eq_none (by rw [h3.1]; omega), List.getElem?_eq_none (by rw [h3'.1]; omega)]
def IsAhd (n : Int) (es : List (Int × Int)) (L : List (List Int)) : Prop := (chkG n es = 0 → ∃ o pl, OrdPl n.toNat es o pl ∧ L = ahdL n.toNat es pl) ∧ (chkG n es ≠ 0 → L = [])
theorem isAhd_unique {n : Int} {es : List (Int × Int)} {L L' : List (List Int)} (h : IsAhd n es L) (h' : IsAhd n es L') : L = L' := by
  by_cases hz : chkG n es = 0
  · obtain ⟨o, pl, h1, rfl⟩ := h.1 hz
    obtain ⟨o', pl', h1', rfl⟩ := h'.1 hz
    rw [ordpl_unique h1 h1']
  · rw [h.2 hz, h'.2 hz]
def RetAh (w : World) (n : Int) (es : List (Int × Int)) (e : Ending) (w' : World) : Prop := ∃ A k c L, e = .returned (.tuple #[.slice A k c, .int .i64 (chkG n es)]) ∧ SLs w' A k L ∧ k ≤ 64 ∧ IsAhd n es L ∧ Below w.heap.size w w'
theorem LL.sls {w : World} {g n : Nat} {L : List (List Int)} (h : LL w g L) (hn : L.length = n) (hb : ∀ ys ∈ L, ys.length ≤ 64) : SLs w (some ⟨g, 0, none⟩) n L := ⟨hn, fun i hi => by
  obtain ⟨A, k, c, ys, h1, h2, h3, h4⟩ := h.get (i := i) (by omega)
  refine ⟨_, A, k, c, rfl, ?_, ?_, ?_⟩
  · rw [show ((⟨g, 0, none⟩ : Addr).add i) = ⟨g, i, none⟩ by unfold Addr.add; split <;> simp_all]; exact h1
  · rw [List.getD_eq_getElem?_getD, h2.out]; exact h4
  · have := hb ys (List.mem_of_getElem? h2.out)
    have := h4.len
    omega⟩
theorem ahd_rows {n : Nat} {es : List (Int × Int)} (hz : chkG n es = 0) (hn : n ≤ 64) (pl : List Int) : ∀ ys ∈ ahdL n es pl, ys.length ≤ 64 := fun ys hy => by
  unfold ahdL at hy
  obtain ⟨v, hv, rfl⟩ := List.mem_map.1 hy
  exact ahdR_len hz hn pl v
set_option maxRecDepth 100000 in
set_option maxHeartbeats 1000000 in
theorem ahead_all (A : Option Addr) (m c : Nat) (n : Int) (es : List (Int × Int)) (w : World) (hT : Tab w) (h : RE w A m es) (hm : m ≤ 68719476736) :
    Calls Tryd.prog 24 #[.agg #[.int .i64 n, .slice A m c]] w (RetAh w n es) := by
  by_cases hz : chkG n es = 0
  · obtain ⟨n0, n1, _⟩ := chkG_zero hz
    obtain ⟨n, rfl⟩ := Int.eq_ofNat_of_zero_le n0
    refine (ahead_any A m c n es w hT h hm hz (by omega)).mono ?_
    rintro e w' ⟨o, pl, h1, h2, h3, g, rfl, hg, hL, hb⟩
    exact ⟨_, _, _, ahdL n es pl, by rw [hz], hL.sls (by simp [ahdL]) (ahd_rows hz (by omega) pl), by omega, ⟨fun _ => ⟨o, pl, ⟨h1, h2, h3⟩, rfl⟩, fun hne => absurd hz hne⟩, hb⟩
  · have hA : IsAhd n es [] := ⟨fun h => absurd h hz, fun _ => rfl⟩
    have k1 := fun w hT h => cOrder_any A m c n es w hT h hm
    unfold RetAh
    generalize hq : chkG n es = q at *
    have hb : (q != 0) = true := by rw [bne_iff_ne]; exact hz
    replace k1 := Lib.hid k1
    replace hA := Lib.hid hA
    replace hq := Lib.hid hq
    go_enter Tryd.func24, Tryd.ntmps24
    go_wp2_with fail
    refine (k1.out _ (hT.alloc _) (h.alloc _)).mono ?_
    rintro e w1 ⟨o, ⟨A1, n1, c1, rfl, -, -, hb1, -⟩, -⟩
    have hb0 : Below w.heap.size w w1 := ((Below.refl _ _).alloc (Nat.le_refl _) _).trans (hb1.mono (by simp))
    clear hb1
    go_wp2_with fail
    go_ret2
    exact ⟨none, 0, 0, [], rfl, SLs.none_, by omega, hA.out, hb0⟩
set_option maxRecDepth 100000 in
set_option maxHeartbeats 1000000 in
theorem r25ahead_all (A : Option Addr) (m c : Nat) (n : Int) (es : List (Int × Int)) (w : World) (h : RE w A m es) (hm : m ≤ 68719476736) :
    Calls Tryd.prog 36 #[.agg #[.int .i64 n, .slice A m c]] w (RetAh w n es) := by
  by_cases hz : chkG n es = 0
  · obtain ⟨n0, n1, _⟩ := chkG_zero hz
    obtain ⟨n, rfl⟩ := Int.eq_ofNat_of_zero_le n0
    refine (r25ahead_any A m c n es w h hm hz (by omega)).mono ?_
    rintro e w' ⟨o, pl, h1, h2, h3, g, rfl, hg, hL, hb⟩
    exact ⟨_, _, _, ahdL n es pl, by rw [hz], hL.sls (by simp [ahdL]) (ahd_rows hz (by omega) pl), by omega, ⟨fun _ => ⟨o, pl, ⟨h1, h2, h3⟩, rfl⟩, fun hne => absurd hz hne⟩, hb⟩
  · have hA : IsAhd n es [] := ⟨fun h => absurd h hz, fun _ => rfl⟩
    have k1 := fun w h => rOrder_any A m c n es w h hm
    unfold RetAh
    generalize hq : chkG n es = q at *
    have hb : (q != 0) = true := by rw [bne_iff_ne]; exact hz
    replace k1 := Lib.hid k1
    replace hA := Lib.hid hA
    replace hq := Lib.hid hq
    go_enter Tryd.func36, Tryd.ntmps36
    go_wp2_with fail
    refine (k1.out _ (h.alloc _)).mono ?_
    rintro e w1 ⟨o, ⟨A1, n1, c1, rfl, -, -, hb1, -⟩, -⟩
    have hb0 : Below w.heap.size w w1 := ((Below.refl _ _).alloc (Nat.le_refl _) _).trans (hb1.mono (by simp))
    clear hb1
    go_wp2_with fail
    go_ret2
    exact ⟨none, 0, 0, [], rfl, SLs.none_, by omega, hA.out, hb0⟩
def IsBnd (n : Int) (es : List (Int × Int)) (size N : Int) : Prop := (errC n es size 1 = 0 → ∃ o pl, OrdPl n.toNat es o pl ∧ N = (bndS n.toNat es pl (size - 1).toNat n.toNat : Nat)) ∧ (errC n es size 1 ≠ 0 → N = 0)
theorem isBnd_unique {n : Int} {es : List (Int × Int)} {size N N' : Int} (h : IsBnd n es size N) (h' : IsBnd n es size N') : N = N' := by
  by_cases hz : errC n es size 1 = 0
  · obtain ⟨o, pl, h1, rfl⟩ := h.1 hz
    obtain ⟨o', pl', h1', rfl⟩ := h'.1 hz
    rw [ordpl_unique h1 h1']
  · rw [h.2 hz, h'.2 hz]
def RetBd (w : World) (n : Int) (es : List (Int × Int)) (size : Int) (e : Ending) (w' : World) : Prop := ∃ N, e = .returned (.tuple #[.int .i64 N, .int .i64 (errC n es size 1)]) ∧ IsBnd n es size N ∧ Below w.heap.size w w'
set_option maxRecDepth 100000 in
set_option maxHeartbeats 1000000 in
theorem bound_all (A : Option Addr) (m c : Nat) (n size : Int) (es : List (Int × Int)) (w : World) (hT : Tab w) (h : RE w A m es) (hm : m ≤ 68719476736) :
    Calls Tryd.prog 34 #[.agg #[.int .i64 n, .slice A m c], .int .i64 size] w (RetBd w n es size) := by
  by_cases hz : errC n es size 1 = 0
  · obtain ⟨z0, z1, z2⟩ := errC_zero hz
    obtain ⟨n0, n1, _⟩ := chkG_zero z0
    obtain ⟨n, rfl⟩ := Int.eq_ofNat_of_zero_le n0
    obtain ⟨k, hk⟩ := Int.eq_ofNat_of_zero_le (show 0 ≤ size - 1 by omega)
    obtain rfl : size = (k : Int) + 1 := by omega
    refine (bound_any A m c n k es w hT h hm z0 (by omega) (by omega)).mono ?_
    rintro e w' ⟨o, pl, h1, h2, h3, rfl, hb⟩
    refine ⟨_, by rw [hz], ⟨fun _ => ⟨o, pl, ⟨h1, h2, h3⟩, ?_⟩, fun hne => absurd hz hne⟩, hb⟩
    rw [show ((k : Int) + 1 - 1).toNat = k by omega]; rfl
  · have hA : IsBnd n es size 0 := ⟨fun h => absurd h hz, fun _ => rfl⟩
    have k1 := fun w h => ccheck_any A m c n es size 1 w h (by omega)
    unfold RetBd
    generalize hq : errC n es size 1 = q at *
    have hb : (q != 0) = true := by rw [bne_iff_ne]; exact hz
    replace k1 := Lib.hid k1
    replace hA := Lib.hid hA
    replace hq := Lib.hid hq
    go_enter Tryd.func34, Tryd.ntmps34
    go_wp2_with fail
    refine (k1.out _ (h.alloc _)).mono ?_
    rintro e w1 ⟨rfl, hb1⟩
    have hb0 : Below w.heap.size w w1 := ((Below.refl _ _).alloc (Nat.le_refl _) _).trans (hb1.mono (by simp))
    clear hb1
    go_wp2_with fail
    go_ret2
    exact ⟨0, rfl, hA.out, hb0⟩
set_option maxRecDepth 100000 in
set_option maxHeartbeats 4000000 in
theorem r25bound_all (A : Option Addr) (m c : Nat) (n size : Int) (es : List (Int × Int)) (w : World) (h : RE w A m es) (hm : m ≤ 68719476736) :
    Calls Tryd.prog 35 #[.agg #[.int .i64 n, .slice A m c], .int .i64 size] w (RetBd w n es size) := by
  have k1 := fun w h => rcheck_any A m c n es w h (by omega)
  rcases errC_cases n es size 1 with ⟨z0, z⟩ | ⟨z0, z1, z⟩ | ⟨z0, z1, z2, z⟩ | ⟨z0, z1, z2, z⟩
  · have hA : IsBnd n es size 0 := ⟨fun h => absurd (z.symm.trans h) z0, fun _ => rfl⟩
    unfold RetBd
    rw [z]
    generalize hq : chkG n es = q at *
    have hb : (q != 0) = true := by rw [bne_iff_ne]; exact z0
    replace hq := Lib.hid hq
    replace k1 := Lib.hid k1
    replace hA := Lib.hid hA
    clear z z0
    go_enter Tryd.func35, Tryd.ntmps35
    go_wp2_with fail
    refine (k1.out _ (h.alloc _)).mono ?_
    rintro e w1 ⟨rfl, hb1⟩
    have hb0 : Below w.heap.size w w1 := ((Below.refl _ _).alloc (Nat.le_refl _) _).trans (hb1.mono (by simp))
    clear hb1
    go_wp2_with fail
    go_ret2
    exact ⟨0, rfl, hA.out, hb0⟩
  · have hA : IsBnd n es size 0 := ⟨fun h => absurd (z.symm.trans h) (by decide), fun _ => rfl⟩
    unfold RetBd
    rw [z]
    rw [z0] at k1
    replace k1 := Lib.hid k1
    replace hA := Lib.hid hA
    clear z z0
    go_enter Tryd.func35, Tryd.ntmps35
    go_wp2_with fail
    refine (k1.out _ (h.alloc _)).mono ?_
    rintro e w1 ⟨rfl, hb1⟩
    have hb0 : Below w.heap.size w w1 := ((Below.refl _ _).alloc (Nat.le_refl _) _).trans (hb1.mono (by simp))
    clear hb1
    go_wp2_with fail
    go_ret2
    exact ⟨0, rfl, hA.out, hb0⟩
  · have hA : IsBnd n es size 0 := ⟨fun h => absurd (z.symm.trans h) (by decide), fun _ => rfl⟩
    unfold RetBd
    rw [z]
    rw [z0] at k1
    replace k1 := Lib.hid k1
    replace hA := Lib.hid hA
    clear z z0
    go_enter Tryd.func35, Tryd.ntmps35
    go_wp2_with fail
    refine (k1.out _ (h.alloc _)).mono ?_
    rintro e w1 ⟨rfl, hb1⟩
    have hb0 : Below w.heap.size w w1 := ((Below.refl _ _).alloc (Nat.le_refl _) _).trans (hb1.mono (by simp))
    clear hb1
    go_wp2_with fail
    go_ret2
    exact ⟨0, rfl, hA.out, hb0⟩
  · obtain ⟨n0, n1, _⟩ := chkG_zero z0
    obtain ⟨n, rfl⟩ := Int.eq_ofNat_of_zero_le n0
    obtain ⟨k, hk⟩ := Int.eq_ofNat_of_zero_le (show 0 ≤ size - 1 by omega)
    obtain rfl : size = (k : Int) + 1 := by omega
    unfold RetBd
    rw [z]
    rw [z0] at k1
    have hz' := Lib.hid z
    have hgm : Hid (chkG (n : Int) es = 0) := Lib.hid z0
    have hk5 : k ≤ 5 := by omega
    have i3 : IntKind.i64.wrap ((k : Int) + 1 - 1) = (k : Int) := by rw [show (k : Int) + 1 - 1 = (k : Int) by omega]; exact IntWalk.i64_in _ ⟨by omega, by omega⟩
    have i4 : IntKind.i64.wrap (k : Int) = (k : Int) := IntWalk.i64_in _ ⟨by omega, by omega⟩
    have i5 : (k : Int) + 1 - 1 = (k : Int) := by omega
    replace k1 := Lib.hid k1
    clear z z0 hk
    go_enter Tryd.func35, Tryd.ntmps35
    go_wp2_with fail
    refine (k1.out _ (h.alloc _)).mono ?_
    rintro e w1 ⟨rfl, hb1⟩
    have G1 : Blk w1 w.heap.size 24 #[.int .i64 n, .slice A m c] := Blk.below (Blk.new _ _ _) hb1 (by simp)
    have hb0 : Below w.heap.size w w1 := ((Below.refl _ _).alloc (Nat.le_refl _) _).trans (hb1.mono (by simp))
    have hr1 := RE.below h hb0 (Nat.le_refl _)
    obtain ⟨d0, d1⟩ := blkG G1
    clear hb1 k1
    go_wp2_with fail
    refine (r25ahead_any A m c n es w1 hr1 (by omega) hgm.out (by omega)).mono ?_
    rintro e w2 ⟨o, pl, hP, hO, hpl, gq, rfl, hgq, hL, hb2⟩
    have hb02 := hb0.trans (hb2.mono hb0.size)
    replace hP := Lib.hid hP
    replace hO := Lib.hid hO
    replace hpl := Lib.hid hpl
    clear hb2 hb0 G1 hr1 d0 d1
    go_wp2_with fail
    go_loopw [9, 10] (fun s i wr => ∃ v : Nat, v ≤ n ∧ i = .int .i64 v ∧ s = .int .i64 (bndS n es pl k v : Nat) ∧ Below w2.heap.size w2 wr) (fun _ i _ => n - (intOf i).toNat)
    case atStart => exact ⟨0, Nat.zero_le _, rfl, rfl, Below.refl _ _⟩
    case round =>
      obtain ⟨v, hv, rfl, rfl, hb⟩ := hrel
      by_cases hvn : v < n
      · obtain ⟨Av, kv, cv, ys, hcv, hys, hkc, hrv⟩ := (hL.below hb (Nat.le_refl _)).get (i := v) (by simp [ahdL]; exact hvn)
        obtain rfl := ahdL_at hvn hys.out
        have hlv := Lib.hid hrv.len
        have hk64 : kv ≤ 64 := by rw [← hrv.len]; exact ahdR_len hgm.out (by omega) pl v
        have hsb := bndS_le hgm.out (show n ≤ 64 by omega) pl hk5 v
        have hst := Lib.hid (bndS_succ n es pl k v)
        have kch := fun w => r25choose_any (kv : Int) (k : Int) w
        rw [chZ_ch hk64] at kch
        have hcs := ch_small hk64 hk5
        generalize hC : ch kv k = C at *
        replace hC := Lib.hid hC
        replace kch := Lib.hid kch
        have i0 : (0 : Int) ≤ (v : Int) := Int.natCast_nonneg _
        have i1 : (v : Int) < (n : Int) := by omega
        clear hys
        generalize hSv : bndS n es pl k v = Sv at *
        replace hSv := Lib.hid hSv
        go_wp2_with (go_at_call 38; refine (kch.out _).mono ?_; rintro e w4 ⟨rfl, hbn⟩)
        go_roundw
        case rel => exact ⟨v + 1, by omega, by go_num, by rw [hst.out, hlv.out, hC.out]; go_num, hb.trans ((by simpa using hbn : Below wr.heap.size wr w4).mono hb.size)⟩
        case measure => simp [intOf]; omega
      · obtain rfl : v = n := by omega
        have hbe := hb02.trans (hb.mono hb02.size)
        have hA : IsBnd (v : Int) es ((k : Int) + 1) ((bndS v es pl k v : Nat) : Int) := ⟨fun _ => ⟨o, pl, ⟨hP.out, hO.out, hpl.out⟩, by rw [show ((k : Int) + 1 - 1).toNat = k by omega]; rfl⟩, fun hne => absurd hz'.out hne⟩
        replace hA := Lib.hid hA
        go_wp2_with fail
        go_ret2
        exact ⟨_, rfl, hA.out, hbe⟩
end Go.Proofs.YtknlmgcbdcepnaaDoor
