/- The law LevelsFall (printed by genLfaL.py). -/
import Derived.Test.YticekkjambkifaaDoorGanL
import Derived.Test.YticekkjambkifaaDoorRbsR
import Derived.Test.YticekkjambkifaaDoorLvcP
import Derived.Test.YticekkjambkifaaDoorRefI
set_option linter.unusedVariables false
set_option linter.unusedSimpArgs false
namespace Go.Proofs.YticekkjambkifaaDoor.Fl
open Go.RowKit Go.Proofs.YticekkjambkifaaDoor CoBit CoRat Rt

set_option maxHeartbeats 1000000 in
theorem union_any (A A' : Option Addr) (n c n' c' : Nat) (xs ys : List Int) (w : World) (h : RI w A n xs) (hn : n ≤ 1099511627) (h' : RI w A' n' ys) (hn' : n' ≤ 1099511627) :
    Calls Tryd.prog 22 #[.slice A n c, .slice A' n' c'] w (RetI w (ofL (xs ++ ys))) := by
  have hl := Lib.hid h.len
  have hl' := Lib.hid h'.len
  go_enter Tryd.func22, Tryd.ntmps22
  go_wp2_with (first
    | (at_builtin; refine wpList_cat (B := w.heap.size) (ys := []) rfl _ _ rfl rfl rfl OI.nil_ h (by simp; omega) (Nat.le_refl _) ?_; intro v1 w1 ho1 hb1 hg1
       have hr1 := h'.below hb1 (Nat.le_refl _))
    | (at_builtin; refine wpList_cat (B := w.heap.size) rfl _ _ rfl rfl rfl ho1 hr1 (by simp; have := hl.out; omega) (hb1.size) ?_; intro v2 w2 ho2 hb2 hg2
       obtain ⟨A2, n2, c2, hv2, hn2, hc2, -, hr2⟩ := ho2.form
       have hn2' : n2 ≤ 1099511627776 := by rw [hn2]; simp; have := hl.out; have := hl'.out; omega
       replace hn2 := Lib.hid hn2
       subst hv2
       have hB2 : Below w.heap.size w w2 := hb1.trans hb2
       have ko := Lib.hid (Go.Proofs.YticekkjambkifaaDoor.of_any A2 n2 c2 _ w2 hr2 hn2'))
    | (go_at_call 68; refine ko.out.mono ?_; rintro e w3 ⟨A3, n3, c3, rfl, hc3, hr3, hb3, hf3⟩)
    | fail)
  go_ret
  exact ⟨_, _, _, rfl, hc3, by simpa using hr3, hB2.trans (hb3.mono hB2.size), hf3.mono hB2.size⟩
theorem ofL_bset (i x : Nat) : ofL (bset i ++ bset x) = bset (i ||| x) := sorted_ext (of_sorted _) (bset_sorted _) fun z => by
  rw [mem_of, List.mem_append, mem_bset_or]
theorem bset_rng {n : Nat} (hn : n ≤ 64) : bset (allM n) = rng n := sorted_ext (bset_sorted _) (rng_sorted n) fun z => by
  rw [mem_rng]
  constructor
  · intro h
    unfold bset nts at h
    obtain ⟨k, hk, rfl⟩ := List.mem_map.1 h
    have := (mem_bl.1 hk).2
    rw [allM_bit, decide_eq_true_eq] at this
    omega
  · rintro ⟨h0, h1⟩
    obtain ⟨k, rfl⟩ := Int.eq_ofNat_of_zero_le h0
    exact (bit_mem (by omega)).2 (by rw [allM_bit]; exact decide_eq_true (by omega))
theorem Lvl.okf {n i x N D : Nat} {es : List (Int × Int)} (h : Lvl n es i x N D) (hle : gn es i x ≤ 4096) (hp : pop x ≤ 64) : okF (N : Int) (D : Int) = true := by
  rw [h.dN, h.dD]
  exact mk_ok _ _ h.pos (by omega) (by omega)
theorem gn_le (es : List (Int × Int)) (i x : Nat) : gn es i x ≤ es.length := by
  unfold gn
  exact Nat.le_trans (Nat.sub_le _ _) (insE_le _ _)
theorem Lvl.cmp {n i x N D x' N' D' : Nat} {es : List (Int × Int)} (h : Lvl n es i x N D) (h' : Lvl n es (i ||| x) x' N' D') (hl : es.length ≤ 4096) : cmpF (N : Int) (D : Int) (N' : Int) (D' : Int) = 1 := by
  have k1 := h.okf (Nat.le_trans (gn_le _ _ _) hl) (pop_le _)
  have k2 := h'.okf (Nat.le_trans (gn_le _ _ _) hl) (pop_le _)
  unfold cmpF
  rw [k1, k2]
  simp only [Bool.and_self, if_true]
  have := h.falls h'
  exact (cmp_pos N N' D' D).2.2 this
theorem LvP.zero {es : List (Int × Int)} {ls : List (Nat × Nat × Nat)} (h : LvP 0 es 0 ls) : ls = [] := by
  cases ls with
  | nil => rfl
  | cons a l => obtain ⟨x, N, D⟩ := a; exact absurd (by decide) h.1
theorem LvP.cons_pos {n : Nat} {es : List (Int × Int)} {ls : List (Nat × Nat × Nat)} (h0 : 0 < n) (h : LvP n es 0 ls) : ∃ x N D r, ls = (x, N, D) :: r ∧ Lvl n es 0 x N D := by
  cases ls with
  | nil =>
    have e : 0 = allM n := h
    have := allM_bit n 0
    rw [← e, Nat.zero_testBit, decide_eq_true h0] at this; cases this
  | cons a l => obtain ⟨x, N, D⟩ := a; exact ⟨x, N, D, l, rfl, h.2.1⟩
set_option maxRecDepth 100000 in
set_option maxHeartbeats 16000000 in
theorem lawFall_any (A0 : Option Addr) (m0 c0 : Nat) (l : List Int) (w : World) (hT : Tab w) (h0 : RI w A0 m0 l) (hmc : m0 ≤ c0) (hm0 : m0 ≤ 1152921504606846976) :
    Calls Tryd.prog 4 #[.slice A0 m0 c0] w fun e w' => e = .returned (.bool true) ∧ Below w.heap.size w w' := by
  go_enter Tryd.func4, Tryd.ntmps4
  go_wp2_with fail
  refine (new_any A0 m0 c0 l w h0 hmc hm0).mono ?_
  rintro e w1 ⟨rfl, hd1, hb1, hs1⟩
  go_wp2_with fail
  refine (mkgraph_any _ 8 _ hd1 (by omega)).mono ?_
  rintro e w2 ⟨n, es, A, m, c, rfl, hmcc, hr2, hf2, hsrt, hn9, hd2, hg2⟩
  have hz := Lib.hid (chk_of_srt hsrt (show (0 : Int) ≤ n by omega) (by omega))
  have hlen : m ≤ 81 := by
    have h1 := srt_len hsrt
    have h2 := hr2.len
    have h3 : n * n ≤ 8 * 8 := Nat.mul_le_mul hn9 hn9
    omega
  have hel : Hid (es.length ≤ 4096) := Lib.hid (by rw [hr2.len]; omega)
  have hb2 : Below w.heap.size w w2 := hb1.grown hg2 (by omega) (fun k hk => by injection hk with hk; omega)
  have hs2 := hb2.size
  clear hs1 hb1 hf2 hg2 h0 hd1 hd2 hsrt
  go_upto_region 2 with fail
  have G3 := Blk.new w2 25 #[.int .i64 n, .slice A m c]
  have E3 := hr2.alloc (.cells #[.int .i64 n, .slice A m c] 25)
  have B3 := hb2.alloc hs2 (.cells #[.int .i64 n, .slice A m c] 25)
  clear hr2 hb2
  generalize w2.alloc (.cells #[.int .i64 n, .slice A m c] 25) = w3 at *
  generalize w2.heap.size = gg at *
  obtain ⟨d0, d1⟩ := blkG G3
  have hT3 := hT.keep B3
  have kb := Lib.hid (lbuild_any A m c n es w3 E3 hT3 (by omega) hz.out (by omega))
  go_upto_region 3 with (first
    | (go_at_call 17; (with_reducible refine kb.out.mono ?_); intro e w4 hq; obtain ⟨A', k, c', ls, rs, rfl, hkc, hP, hR, hb4, hk64, hfA, hfr, -⟩ := hq)
    | fail)
  have G4 := G3.below hb4 G3.lt
  have E4 := E3.below hb4 (Nat.le_refl _)
  have B4 := B3.trans (hb4.mono B3.size)
  clear G3 E3 B3 hb4 hT3 kb d0 d1 hfA hfr hkc
  obtain ⟨d0, d1⟩ := blkG G4
  have kr := Lib.hid (rbest_any A m c n es w4 E4 (by omega) hz.out (by omega) (by omega))
  replace hP := Lib.hid hP
  go_upto_region 4 with (first
    | (go_at_call 18; (with_reducible refine kr.out.mono ?_); intro e w5 hq; obtain ⟨A5, k5, c5, rfl, hkc5, hr5, hb5⟩ := hq)
    | fail)
  obtain ⟨bN, hbN⟩ : ∃ b : Int, b = mkN (bR es (2 ^ n - 1)).2.1 (bR es (2 ^ n - 1)).2.2 := ⟨_, rfl⟩
  obtain ⟨bD, hbD⟩ : ∃ b : Int, b = mkD (bR es (2 ^ n - 1)).2.1 (bR es (2 ^ n - 1)).2.2 := ⟨_, rfl⟩
  rw [← hbN, ← hbD]
  have hall := Lib.hid (And.intro hbN hbD)
  clear hbN hbD
  have G6 := (G4.below hb5 G4.lt).alloc (.cells #[.int .i64 bN, .int .i64 bD] 36)
  have E6 := (E4.below hb5 (Nat.le_refl _)).alloc (.cells #[.int .i64 bN, .int .i64 bD] 36)
  have B6 := (B4.trans (hb5.mono B4.size)).alloc (B4.trans (hb5.mono B4.size)).size (.cells #[.int .i64 bN, .int .i64 bD] 36)
  have R6 := (hR.below hb5).below ((Below.refl w5.heap.size w5).alloc (Nat.le_refl _) (.cells #[.int .i64 bN, .int .i64 bD] 36))
  have V6 := hr5.alloc (.cells #[.int .i64 bN, .int .i64 bD] 36)
  have F6 := Blk.new w5 36 #[.int .i64 bN, .int .i64 bD]
  clear G4 E4 B4 hb5 kr d0 d1 hR hr5 hkc5
  generalize w5.alloc (.cells #[.int .i64 bN, .int .i64 bD] 36) = w6 at *
  generalize w5.heap.size = gf at *
  have hll := Lib.hid R6.llen
  have hBq : Hid (∃ q, Below w6.heap.size w6 (w6.drewN q)) := Lib.hid ⟨0, below_drewN (Below.refl _ _) 0⟩
  go_cut [60] from 28 to 113 (fun t wx => t = .bool false ∧ Below w6.heap.size w6 wx)
  case first =>
    have G6l := G6.lt
    have F6l := F6.lt
    rcases Nat.eq_zero_or_pos n with hn0 | hn0
    · subst hn0
      have hls := hP.out.zero
      have hk0 : k = 0 := by rw [← hll.out, hls]; rfl
      subst hk0
      have q1 : (((0 : Nat) : Int) == 0) = true := rfl
      obtain ⟨SS, hSS⟩ : ∃ SS : World → Prop, ∀ w', SS w' ↔ w'.cell? ⟨gg, 0, none⟩ = some (.int .i64 ((0 : Nat) : Int)) ∧ True := ⟨fun w' => _, fun _ => Iff.rfl⟩
      have s0 : SS w6.drew := (hSS _).2 ⟨by have := Blk.cell G6 0; simpa using this, trivial⟩
      replace hSS := Lib.hid hSS
      clear G6 E6 B6 R6 V6 F6 hls
      refine wp_region_TS (T := fun j w' => j ∈ ([] : List Nat) ∨ SS w') (by kernel_rfl) ?_
      intro QQ hQQ hQP
      have b0 : Below w6.heap.size w6 w6.drew := (Below.refl _ w6).drew
      generalize w6.drew = X at *
      refine takeM (i := 0) (M := ([] : List Nat)) (S := SS) (d := some 28) (v := .int .i64 0) rfl rfl (by kernel_rfl) (by kernel_rfl) (by kernel_rfl) hQP.out (by kernel_rfl) (Or.inl ⟨by rfl, fun w' hS => ?_⟩) s0 ?_
      · obtain ⟨y0, y1⟩ := (hSS.out _).1 hS
        go_simp
      (try simp only [Act.put, List.setIfInBounds_toArray, List.set_cons_zero, List.set_cons_succ])
      refine takeM (i := 1) (M := ([] : List Nat)) (S := SS) (d := some 29) (v := .bool false) rfl rfl (by kernel_rfl) (by kernel_rfl) (by kernel_rfl) hQP.out (by kernel_rfl) (Or.inl ⟨by rfl, fun w' hS => ?_⟩) s0 ?_
      · obtain ⟨y0, y1⟩ := (hSS.out _).1 hS
        go_simp
      (try simp only [Act.put, List.setIfInBounds_toArray, List.set_cons_zero, List.set_cons_succ])
      refine takeM (i := 2) (M := ([] : List Nat)) (S := SS) (d := some 30) (v := .bool false) rfl rfl (by kernel_rfl) (by kernel_rfl) (by kernel_rfl) hQP.out (by kernel_rfl) (Or.inl ⟨by rfl, fun w' hS => ?_⟩) s0 ?_
      · obtain ⟨y0, y1⟩ := (hSS.out _).1 hS
        go_simp
      (try simp only [Act.put, List.setIfInBounds_toArray, List.set_cons_zero, List.set_cons_succ])
      refine takeM (i := 3) (M := ([] : List Nat)) (S := SS) (d := some 31) (v := .slice A' 0 c') rfl rfl (by kernel_rfl) (by kernel_rfl) (by kernel_rfl) hQP.out (by kernel_rfl) (Or.inl ⟨by rfl, fun w' hS => ?_⟩) s0 ?_
      · obtain ⟨y0, y1⟩ := (hSS.out _).1 hS
        go_simp
      (try simp only [Act.put, List.setIfInBounds_toArray, List.set_cons_zero, List.set_cons_succ])
      refine takeM (i := 4) (M := ([] : List Nat)) (S := SS) (d := some 32) (v := .int .i64 0) rfl rfl (by kernel_rfl) (by kernel_rfl) (by kernel_rfl) hQP.out (by kernel_rfl) (Or.inl ⟨by rfl, fun w' hS => ?_⟩) s0 ?_
      · obtain ⟨y0, y1⟩ := (hSS.out _).1 hS
        go_simp
      (try simp only [Act.put, List.setIfInBounds_toArray, List.set_cons_zero, List.set_cons_succ])
      refine takeM (i := 5) (M := ([] : List Nat)) (S := SS) (d := some 33) (v := .bool true) rfl rfl (by kernel_rfl) (by kernel_rfl) (by kernel_rfl) hQP.out (by kernel_rfl) (Or.inl ⟨by rfl, fun w' hS => ?_⟩) s0 ?_
      · obtain ⟨y0, y1⟩ := (hSS.out _).1 hS
        go_simp
      (try simp only [Act.put, List.setIfInBounds_toArray, List.set_cons_zero, List.set_cons_succ])
      refine takeM (i := 6) (M := ([] : List Nat)) (S := SS) (d := some 34) (v := .pointer (some ⟨gg, 0, none⟩)) rfl rfl (by kernel_rfl) (by kernel_rfl) (by kernel_rfl) hQP.out (by kernel_rfl) (Or.inl ⟨by rfl, fun w' hS => ?_⟩) s0 ?_
      · obtain ⟨y0, y1⟩ := (hSS.out _).1 hS
        go_simp
      (try simp only [Act.put, List.setIfInBounds_toArray, List.set_cons_zero, List.set_cons_succ])
      refine takeM (i := 7) (M := ([] : List Nat)) (S := SS) (d := some 35) (v := .int .i64 0) rfl rfl (by kernel_rfl) (by kernel_rfl) (by kernel_rfl) hQP.out (by kernel_rfl) (Or.inl ⟨by rfl, fun w' hS => ?_⟩) s0 ?_
      · obtain ⟨y0, y1⟩ := (hSS.out _).1 hS
        go_simp
      (try simp only [Act.put, List.setIfInBounds_toArray, List.set_cons_zero, List.set_cons_succ])
      refine takeM (i := 8) (M := ([] : List Nat)) (S := SS) (d := some 36) (v := .bool true) rfl rfl (by kernel_rfl) (by kernel_rfl) (by kernel_rfl) hQP.out (by kernel_rfl) (Or.inl ⟨by rfl, fun w' hS => ?_⟩) s0 ?_
      · obtain ⟨y0, y1⟩ := (hSS.out _).1 hS
        go_simp
      (try simp only [Act.put, List.setIfInBounds_toArray, List.set_cons_zero, List.set_cons_succ])
      refine takeM (i := 9) (M := ([] : List Nat)) (S := SS) (d := some 37) (v := .bool false) rfl rfl (by kernel_rfl) (by kernel_rfl) (by kernel_rfl) hQP.out (by kernel_rfl) (Or.inl ⟨by rfl, fun w' hS => ?_⟩) s0 ?_
      · obtain ⟨y0, y1⟩ := (hSS.out _).1 hS
        go_simp
      (try simp only [Act.put, List.setIfInBounds_toArray, List.set_cons_zero, List.set_cons_succ])
      refine takeM (i := 10) (M := ([] : List Nat)) (S := SS) (d := some 38) (v := .bool false) rfl rfl (by kernel_rfl) (by kernel_rfl) (by kernel_rfl) hQP.out (by kernel_rfl) (Or.inl ⟨by rfl, fun w' hS => ?_⟩) s0 ?_
      · obtain ⟨y0, y1⟩ := (hSS.out _).1 hS
        go_simp
      (try simp only [Act.put, List.setIfInBounds_toArray, List.set_cons_zero, List.set_cons_succ])
      refine takeM (i := 11) (M := ([] : List Nat)) (S := SS) (d := some 39) (v := .bool false) rfl rfl (by kernel_rfl) (by kernel_rfl) (by kernel_rfl) hQP.out (by kernel_rfl) (Or.inl ⟨by rfl, fun w' hS => ?_⟩) s0 ?_
      · obtain ⟨y0, y1⟩ := (hSS.out _).1 hS
        go_simp
      (try simp only [Act.put, List.setIfInBounds_toArray, List.set_cons_zero, List.set_cons_succ])
      refine takeM (i := 12) (M := ([] : List Nat)) (S := SS) (d := some 40) (v := .slice A' 0 c') rfl rfl (by kernel_rfl) (by kernel_rfl) (by kernel_rfl) hQP.out (by kernel_rfl) (Or.inl ⟨by rfl, fun w' hS => ?_⟩) s0 ?_
      · obtain ⟨y0, y1⟩ := (hSS.out _).1 hS
        go_simp
      (try simp only [Act.put, List.setIfInBounds_toArray, List.set_cons_zero, List.set_cons_succ])
      refine takeM (i := 13) (M := ([] : List Nat)) (S := SS) (d := some 41) (v := .int .i64 0) rfl rfl (by kernel_rfl) (by kernel_rfl) (by kernel_rfl) hQP.out (by kernel_rfl) (Or.inl ⟨by rfl, fun w' hS => ?_⟩) s0 ?_
      · obtain ⟨y0, y1⟩ := (hSS.out _).1 hS
        go_simp
      (try simp only [Act.put, List.setIfInBounds_toArray, List.set_cons_zero, List.set_cons_succ])
      refine takeM (i := 14) (M := ([] : List Nat)) (S := SS) (d := some 42) (v := .bool false) rfl rfl (by kernel_rfl) (by kernel_rfl) (by kernel_rfl) hQP.out (by kernel_rfl) (Or.inl ⟨by rfl, fun w' hS => ?_⟩) s0 ?_
      · obtain ⟨y0, y1⟩ := (hSS.out _).1 hS
        go_simp
      (try simp only [Act.put, List.setIfInBounds_toArray, List.set_cons_zero, List.set_cons_succ])
      refine takeM (i := 15) (M := ([] : List Nat)) (S := SS) (d := some 43) (v := .bool false) rfl rfl (by kernel_rfl) (by kernel_rfl) (by kernel_rfl) hQP.out (by kernel_rfl) (Or.inl ⟨by rfl, fun w' hS => ?_⟩) s0 ?_
      · obtain ⟨y0, y1⟩ := (hSS.out _).1 hS
        go_simp
      (try simp only [Act.put, List.setIfInBounds_toArray, List.set_cons_zero, List.set_cons_succ])
      refine takeM (i := 16) (M := ([] : List Nat)) (S := SS) (d := some 44) (v := undef) rfl rfl (by kernel_rfl) (by kernel_rfl) (by kernel_rfl) hQP.out (by kernel_rfl) (Or.inr ⟨by rfl, rfl⟩) s0 ?_
      (try simp only [Act.put, List.setIfInBounds_toArray, List.set_cons_zero, List.set_cons_succ])
      refine takeM (i := 17) (M := ([] : List Nat)) (S := SS) (d := some 45) (v := undef) rfl rfl (by kernel_rfl) (by kernel_rfl) (by kernel_rfl) hQP.out (by kernel_rfl) (Or.inr ⟨by rfl, rfl⟩) s0 ?_
      (try simp only [Act.put, List.setIfInBounds_toArray, List.set_cons_zero, List.set_cons_succ])
      refine takeM (i := 18) (M := ([] : List Nat)) (S := SS) (d := some 46) (v := undef) rfl rfl (by kernel_rfl) (by kernel_rfl) (by kernel_rfl) hQP.out (by kernel_rfl) (Or.inr ⟨by rfl, rfl⟩) s0 ?_
      (try simp only [Act.put, List.setIfInBounds_toArray, List.set_cons_zero, List.set_cons_succ])
      refine takeM (i := 19) (M := ([] : List Nat)) (S := SS) (d := some 47) (v := undef) rfl rfl (by kernel_rfl) (by kernel_rfl) (by kernel_rfl) hQP.out (by kernel_rfl) (Or.inr ⟨by rfl, rfl⟩) s0 ?_
      (try simp only [Act.put, List.setIfInBounds_toArray, List.set_cons_zero, List.set_cons_succ])
      refine takeM (i := 20) (M := ([] : List Nat)) (S := SS) (d := some 48) (v := undef) rfl rfl (by kernel_rfl) (by kernel_rfl) (by kernel_rfl) hQP.out (by kernel_rfl) (Or.inr ⟨by rfl, rfl⟩) s0 ?_
      (try simp only [Act.put, List.setIfInBounds_toArray, List.set_cons_zero, List.set_cons_succ])
      refine takeM (i := 21) (M := ([] : List Nat)) (S := SS) (d := some 49) (v := undef) rfl rfl (by kernel_rfl) (by kernel_rfl) (by kernel_rfl) hQP.out (by kernel_rfl) (Or.inr ⟨by rfl, rfl⟩) s0 ?_
      (try simp only [Act.put, List.setIfInBounds_toArray, List.set_cons_zero, List.set_cons_succ])
      refine takeM (i := 22) (M := ([] : List Nat)) (S := SS) (d := some 50) (v := undef) rfl rfl (by kernel_rfl) (by kernel_rfl) (by kernel_rfl) hQP.out (by kernel_rfl) (Or.inr ⟨by rfl, rfl⟩) s0 ?_
      (try simp only [Act.put, List.setIfInBounds_toArray, List.set_cons_zero, List.set_cons_succ])
      refine takeM (i := 23) (M := ([] : List Nat)) (S := SS) (d := some 51) (v := undef) rfl rfl (by kernel_rfl) (by kernel_rfl) (by kernel_rfl) hQP.out (by kernel_rfl) (Or.inr ⟨by rfl, rfl⟩) s0 ?_
      (try simp only [Act.put, List.setIfInBounds_toArray, List.set_cons_zero, List.set_cons_succ])
      refine takeM (i := 24) (M := ([] : List Nat)) (S := SS) (d := some 52) (v := undef) rfl rfl (by kernel_rfl) (by kernel_rfl) (by kernel_rfl) hQP.out (by kernel_rfl) (Or.inr ⟨by rfl, rfl⟩) s0 ?_
      (try simp only [Act.put, List.setIfInBounds_toArray, List.set_cons_zero, List.set_cons_succ])
      refine takeM (i := 25) (M := ([] : List Nat)) (S := SS) (d := some 53) (v := undef) rfl rfl (by kernel_rfl) (by kernel_rfl) (by kernel_rfl) hQP.out (by kernel_rfl) (Or.inr ⟨by rfl, rfl⟩) s0 ?_
      (try simp only [Act.put, List.setIfInBounds_toArray, List.set_cons_zero, List.set_cons_succ])
      refine takeM (i := 26) (M := ([] : List Nat)) (S := SS) (d := some 54) (v := undef) rfl rfl (by kernel_rfl) (by kernel_rfl) (by kernel_rfl) hQP.out (by kernel_rfl) (Or.inr ⟨by rfl, rfl⟩) s0 ?_
      (try simp only [Act.put, List.setIfInBounds_toArray, List.set_cons_zero, List.set_cons_succ])
      refine takeM (i := 27) (M := ([] : List Nat)) (S := SS) (d := some 55) (v := undef) rfl rfl (by kernel_rfl) (by kernel_rfl) (by kernel_rfl) hQP.out (by kernel_rfl) (Or.inr ⟨by rfl, rfl⟩) s0 ?_
      (try simp only [Act.put, List.setIfInBounds_toArray, List.set_cons_zero, List.set_cons_succ])
      refine takeM (i := 28) (M := ([] : List Nat)) (S := SS) (d := some 56) (v := undef) rfl rfl (by kernel_rfl) (by kernel_rfl) (by kernel_rfl) hQP.out (by kernel_rfl) (Or.inr ⟨by rfl, rfl⟩) s0 ?_
      (try simp only [Act.put, List.setIfInBounds_toArray, List.set_cons_zero, List.set_cons_succ])
      refine takeM (i := 29) (M := ([] : List Nat)) (S := SS) (d := some 57) (v := undef) rfl rfl (by kernel_rfl) (by kernel_rfl) (by kernel_rfl) hQP.out (by kernel_rfl) (Or.inr ⟨by rfl, rfl⟩) s0 ?_
      (try simp only [Act.put, List.setIfInBounds_toArray, List.set_cons_zero, List.set_cons_succ])
      refine takeM (i := 30) (M := ([] : List Nat)) (S := SS) (d := some 58) (v := undef) rfl rfl (by kernel_rfl) (by kernel_rfl) (by kernel_rfl) hQP.out (by kernel_rfl) (Or.inr ⟨by rfl, rfl⟩) s0 ?_
      (try simp only [Act.put, List.setIfInBounds_toArray, List.set_cons_zero, List.set_cons_succ])
      refine takeM (i := 31) (M := ([] : List Nat)) (S := SS) (d := some 59) (v := .bool false) rfl rfl (by kernel_rfl) (by kernel_rfl) (by kernel_rfl) hQP.out (by kernel_rfl) (Or.inl ⟨by rfl, fun w' hS => ?_⟩) s0 ?_
      · obtain ⟨y0, y1⟩ := (hSS.out _).1 hS
        go_simp
      (try simp only [Act.put, List.setIfInBounds_toArray, List.set_cons_zero, List.set_cons_succ])
      refine takeM (i := 32) (M := ([] : List Nat)) (S := SS) (d := some 60) (v := .bool false) rfl rfl (by kernel_rfl) (by kernel_rfl) (by kernel_rfl) hQP.out (by kernel_rfl) (Or.inl ⟨by rfl, fun w' hS => ?_⟩) s0 ?_
      · obtain ⟨y0, y1⟩ := (hSS.out _).1 hS
        go_simp
      (try simp only [Act.put, List.setIfInBounds_toArray, List.set_cons_zero, List.set_cons_succ])
      refine wpAnyT_done (by kernel_rfl) (hQQ.out _ _ ?_) _
      clear hQQ hQP QQ
      go_wp2_with fail
      go_meet
      exact ⟨rfl, b0⟩
    · obtain ⟨x, N, D, r, hls, hL⟩ := LvP.cons_pos hn0 hP.out
      obtain ⟨e1, e2, e3⟩ := hL.ref (by omega) hn0
      rw [e1] at V6
      have hbN : bN = (N : Int) := hall.out.1.trans e2
      have hbD : bD = (D : Int) := hall.out.2.trans e3
      subst hbN
      subst hbD
      have hk0 : 0 < k := by rw [← hll.out, hls]; simp
      obtain ⟨ad, rr, hA1, -, hr, z0, z1, z2, z3, z4⟩ := rs_get5 R6.rd (j := 0) hk0
      obtain ⟨rA, rn, rc, rN, rD, re, rP, rm, rk⟩ := rr
      obtain ⟨a1, a2, -, -, -, -, a7, -⟩ := R6.el 0 _ _ hr.out (by rw [hls]; rfl)
      simp only at a1 a2 a7 z0 z1 z2
      subst a1; subst a2
      have Y0 : w6.cell? ad = some (.slice rA rn rc) := z0
      have Y1 : w6.cell? ⟨ad.block, ad.off + 1, none⟩ = some (.int .i64 (N : Nat)) := z1
      have Y2 : w6.cell? ⟨ad.block, ad.off + 1 + 1, none⟩ = some (.int .i64 (D : Nat)) := z2
      have hrn : rn ≤ 64 := by
        have h1 : rn = pop x := (by rw [← a7.len]; unfold bset; rw [nts_length, pop_bl])
        rw [h1]; exact pop_le x
      have hk5 : k5 ≤ 64 := by
        have h1 : k5 = pop x := (by rw [← V6.len]; unfold bset; rw [nts_length, pop_bl])
        rw [h1]; exact pop_le x
      have ks := Go.Proofs.YticekkjambkifaaDoor.same_any rA A5 rn rc k5 c5 (bset x) (bset x) w6.drew a7 (by omega) V6 (by omega)
      rw [decide_eq_true rfl] at ks
      replace ks := Lib.hid ks
      have q1 : ((k : Int) == 0) = false := by rw [beq_eq_false_iff_ne]; omega
      have q2 : ((n : Int) == 0) = false := by rw [beq_eq_false_iff_ne]; omega
      have q3 : (0 : Int) < (k : Int) := by omega
      have q4 : ((N : Int) != (N : Int)) = false := by simp
      have q5 : ((D : Int) != (D : Int)) = false := by simp
      have q6 : ((N : Int) == (N : Int)) = true := beq_self_eq_true _
      have q7 : ((D : Int) == (D : Int)) = true := beq_self_eq_true _
      obtain ⟨SS, hSS⟩ : ∃ SS : World → Prop, ∀ w', SS w' ↔ (w'.cell? ⟨gg, 0, none⟩ = some (.int .i64 (n : Nat)) ∧ w'.cell? ad = some (.slice rA rn rc) ∧ w'.cell? ⟨ad.block, ad.off + 1, none⟩ = some (.int .i64 (N : Nat)) ∧ w'.cell? ⟨ad.block, ad.off + 1 + 1, none⟩ = some (.int .i64 (D : Nat)) ∧ w'.cell? ⟨gf, 0, none⟩ = some (.int .i64 (N : Nat)) ∧ w'.cell? ⟨gf, 1, none⟩ = some (.int .i64 (D : Nat))) := ⟨fun w' => _, fun _ => Iff.rfl⟩
      have s0 : SS w6.drew := (hSS _).2 ⟨by have := Blk.cell G6 0; simpa using this, Y0, Y1, Y2, by have := Blk.cell F6 0; simpa using this, by have := Blk.cell F6 1; simpa using this⟩
      have sq : Hid (∀ q, SS (w6.drew.drewN q)) := Lib.hid (fun q => (hSS (w6.drew.drewN q)).2 ((hSS w6.drew).1 s0))
      replace hSS := Lib.hid hSS
      subst hA1
      clear G6 E6 B6 R6 V6 F6 hls hL e1 e2 e3 hr z0 z1 z2 z3 z4 Y0 Y1 Y2 a7
      refine wp_region_TS (T := fun j w' => j ∈ ([] : List Nat) ∨ SS w') (by kernel_rfl) ?_
      intro QQ hQQ hQP
      have b0 : Below w6.heap.size w6 w6.drew := (Below.refl _ w6).drew
      generalize w6.drew = X at *
      refine takeM (i := 0) (M := ([] : List Nat)) (S := SS) (d := some 28) (v := .int .i64 0) rfl rfl (by kernel_rfl) (by kernel_rfl) (by kernel_rfl) hQP.out (by kernel_rfl) (Or.inl ⟨by rfl, fun w' hS => ?_⟩) s0 ?_
      · obtain ⟨y0, y1, y2, y3, y4, y5⟩ := (hSS.out _).1 hS
        go_simp
      (try simp only [Act.put, List.setIfInBounds_toArray, List.set_cons_zero, List.set_cons_succ])
      refine takeM (i := 1) (M := ([] : List Nat)) (S := SS) (d := some 29) (v := .bool false) rfl rfl (by kernel_rfl) (by kernel_rfl) (by kernel_rfl) hQP.out (by kernel_rfl) (Or.inl ⟨by rfl, fun w' hS => ?_⟩) s0 ?_
      · obtain ⟨y0, y1, y2, y3, y4, y5⟩ := (hSS.out _).1 hS
        go_simp
      (try simp only [Act.put, List.setIfInBounds_toArray, List.set_cons_zero, List.set_cons_succ])
      refine takeM (i := 2) (M := ([] : List Nat)) (S := SS) (d := some 30) (v := .bool false) rfl rfl (by kernel_rfl) (by kernel_rfl) (by kernel_rfl) hQP.out (by kernel_rfl) (Or.inl ⟨by rfl, fun w' hS => ?_⟩) s0 ?_
      · obtain ⟨y0, y1, y2, y3, y4, y5⟩ := (hSS.out _).1 hS
        go_simp
      (try simp only [Act.put, List.setIfInBounds_toArray, List.set_cons_zero, List.set_cons_succ])
      refine takeM (i := 3) (M := ([] : List Nat)) (S := SS) (d := some 31) (v := .slice (some ad) k c') rfl rfl (by kernel_rfl) (by kernel_rfl) (by kernel_rfl) hQP.out (by kernel_rfl) (Or.inl ⟨by rfl, fun w' hS => ?_⟩) s0 ?_
      · obtain ⟨y0, y1, y2, y3, y4, y5⟩ := (hSS.out _).1 hS
        go_simp
      (try simp only [Act.put, List.setIfInBounds_toArray, List.set_cons_zero, List.set_cons_succ])
      refine takeM (i := 4) (M := ([] : List Nat)) (S := SS) (d := some 32) (v := .int .i64 (k : Nat)) rfl rfl (by kernel_rfl) (by kernel_rfl) (by kernel_rfl) hQP.out (by kernel_rfl) (Or.inl ⟨by rfl, fun w' hS => ?_⟩) s0 ?_
      · obtain ⟨y0, y1, y2, y3, y4, y5⟩ := (hSS.out _).1 hS
        go_simp
      (try simp only [Act.put, List.setIfInBounds_toArray, List.set_cons_zero, List.set_cons_succ])
      refine takeM (i := 5) (M := ([] : List Nat)) (S := SS) (d := some 33) (v := .bool false) rfl rfl (by kernel_rfl) (by kernel_rfl) (by kernel_rfl) hQP.out (by kernel_rfl) (Or.inl ⟨by rfl, fun w' hS => ?_⟩) s0 ?_
      · obtain ⟨y0, y1, y2, y3, y4, y5⟩ := (hSS.out _).1 hS
        go_simp
      (try simp only [Act.put, List.setIfInBounds_toArray, List.set_cons_zero, List.set_cons_succ])
      refine takeM (i := 6) (M := ([] : List Nat)) (S := SS) (d := some 34) (v := .pointer (some ⟨gg, 0, none⟩)) rfl rfl (by kernel_rfl) (by kernel_rfl) (by kernel_rfl) hQP.out (by kernel_rfl) (Or.inl ⟨by rfl, fun w' hS => ?_⟩) s0 ?_
      · obtain ⟨y0, y1, y2, y3, y4, y5⟩ := (hSS.out _).1 hS
        go_simp
      (try simp only [Act.put, List.setIfInBounds_toArray, List.set_cons_zero, List.set_cons_succ])
      refine takeM (i := 7) (M := ([] : List Nat)) (S := SS) (d := some 35) (v := .int .i64 (n : Nat)) rfl rfl (by kernel_rfl) (by kernel_rfl) (by kernel_rfl) hQP.out (by kernel_rfl) (Or.inl ⟨by rfl, fun w' hS => ?_⟩) s0 ?_
      · obtain ⟨y0, y1, y2, y3, y4, y5⟩ := (hSS.out _).1 hS
        go_simp
      (try simp only [Act.put, List.setIfInBounds_toArray, List.set_cons_zero, List.set_cons_succ])
      refine takeM (i := 8) (M := ([] : List Nat)) (S := SS) (d := some 36) (v := .bool false) rfl rfl (by kernel_rfl) (by kernel_rfl) (by kernel_rfl) hQP.out (by kernel_rfl) (Or.inl ⟨by rfl, fun w' hS => ?_⟩) s0 ?_
      · obtain ⟨y0, y1, y2, y3, y4, y5⟩ := (hSS.out _).1 hS
        go_simp
      (try simp only [Act.put, List.setIfInBounds_toArray, List.set_cons_zero, List.set_cons_succ])
      refine takeM (i := 9) (M := ([] : List Nat)) (S := SS) (d := some 37) (v := .bool false) rfl rfl (by kernel_rfl) (by kernel_rfl) (by kernel_rfl) hQP.out (by kernel_rfl) (Or.inl ⟨by rfl, fun w' hS => ?_⟩) s0 ?_
      · obtain ⟨y0, y1, y2, y3, y4, y5⟩ := (hSS.out _).1 hS
        go_simp
      (try simp only [Act.put, List.setIfInBounds_toArray, List.set_cons_zero, List.set_cons_succ])
      refine takeM (i := 10) (M := ([] : List Nat)) (S := SS) (d := some 38) (v := .bool false) rfl rfl (by kernel_rfl) (by kernel_rfl) (by kernel_rfl) hQP.out (by kernel_rfl) (Or.inl ⟨by rfl, fun w' hS => ?_⟩) s0 ?_
      · obtain ⟨y0, y1, y2, y3, y4, y5⟩ := (hSS.out _).1 hS
        go_simp
      (try simp only [Act.put, List.setIfInBounds_toArray, List.set_cons_zero, List.set_cons_succ])
      refine takeM (i := 11) (M := ([] : List Nat)) (S := SS) (d := some 39) (v := .bool false) rfl rfl (by kernel_rfl) (by kernel_rfl) (by kernel_rfl) hQP.out (by kernel_rfl) (Or.inl ⟨by rfl, fun w' hS => ?_⟩) s0 ?_
      · obtain ⟨y0, y1, y2, y3, y4, y5⟩ := (hSS.out _).1 hS
        go_simp
      (try simp only [Act.put, List.setIfInBounds_toArray, List.set_cons_zero, List.set_cons_succ])
      refine takeM (i := 12) (M := ([] : List Nat)) (S := SS) (d := some 40) (v := .slice (some ad) k c') rfl rfl (by kernel_rfl) (by kernel_rfl) (by kernel_rfl) hQP.out (by kernel_rfl) (Or.inl ⟨by rfl, fun w' hS => ?_⟩) s0 ?_
      · obtain ⟨y0, y1, y2, y3, y4, y5⟩ := (hSS.out _).1 hS
        go_simp
      (try simp only [Act.put, List.setIfInBounds_toArray, List.set_cons_zero, List.set_cons_succ])
      refine takeM (i := 13) (M := ([] : List Nat)) (S := SS) (d := some 41) (v := .int .i64 (k : Nat)) rfl rfl (by kernel_rfl) (by kernel_rfl) (by kernel_rfl) hQP.out (by kernel_rfl) (Or.inl ⟨by rfl, fun w' hS => ?_⟩) s0 ?_
      · obtain ⟨y0, y1, y2, y3, y4, y5⟩ := (hSS.out _).1 hS
        go_simp
      (try simp only [Act.put, List.setIfInBounds_toArray, List.set_cons_zero, List.set_cons_succ])
      refine takeM (i := 14) (M := ([] : List Nat)) (S := SS) (d := some 42) (v := .bool true) rfl rfl (by kernel_rfl) (by kernel_rfl) (by kernel_rfl) hQP.out (by kernel_rfl) (Or.inl ⟨by rfl, fun w' hS => ?_⟩) s0 ?_
      · obtain ⟨y0, y1, y2, y3, y4, y5⟩ := (hSS.out _).1 hS
        go_simp
      (try simp only [Act.put, List.setIfInBounds_toArray, List.set_cons_zero, List.set_cons_succ])
      refine takeM (i := 15) (M := ([] : List Nat)) (S := SS) (d := some 43) (v := .bool true) rfl rfl (by kernel_rfl) (by kernel_rfl) (by kernel_rfl) hQP.out (by kernel_rfl) (Or.inl ⟨by rfl, fun w' hS => ?_⟩) s0 ?_
      · obtain ⟨y0, y1, y2, y3, y4, y5⟩ := (hSS.out _).1 hS
        go_simp
      (try simp only [Act.put, List.setIfInBounds_toArray, List.set_cons_zero, List.set_cons_succ])
      refine takeM (i := 16) (M := ([] : List Nat)) (S := SS) (d := some 44) (v := .slice (some ad) k c') rfl rfl (by kernel_rfl) (by kernel_rfl) (by kernel_rfl) hQP.out (by kernel_rfl) (Or.inl ⟨by rfl, fun w' hS => ?_⟩) s0 ?_
      · obtain ⟨y0, y1, y2, y3, y4, y5⟩ := (hSS.out _).1 hS
        go_simp
      (try simp only [Act.put, List.setIfInBounds_toArray, List.set_cons_zero, List.set_cons_succ])
      refine takeM (i := 17) (M := ([] : List Nat)) (S := SS) (d := some 45) (v := .pointer (some ad)) rfl rfl (by kernel_rfl) (by kernel_rfl) (by kernel_rfl) hQP.out (by kernel_rfl) (Or.inl ⟨by rfl, fun w' hS => ?_⟩) s0 ?_
      · obtain ⟨y0, y1, y2, y3, y4, y5⟩ := (hSS.out _).1 hS
        go_simp
      (try simp only [Act.put, List.setIfInBounds_toArray, List.set_cons_zero, List.set_cons_succ])
      refine takeM (i := 18) (M := ([] : List Nat)) (S := SS) (d := some 46) (v := .pointer (some ad)) rfl rfl (by kernel_rfl) (by kernel_rfl) (by kernel_rfl) hQP.out (by kernel_rfl) (Or.inl ⟨by rfl, fun w' hS => ?_⟩) s0 ?_
      · obtain ⟨y0, y1, y2, y3, y4, y5⟩ := (hSS.out _).1 hS
        go_simp
      (try simp only [Act.put, List.setIfInBounds_toArray, List.set_cons_zero, List.set_cons_succ])
      refine takeM (i := 19) (M := ([] : List Nat)) (S := SS) (d := some 47) (v := .slice rA rn rc) rfl rfl (by kernel_rfl) (by kernel_rfl) (by kernel_rfl) hQP.out (by kernel_rfl) (Or.inl ⟨by rfl, fun w' hS => ?_⟩) s0 ?_
      · obtain ⟨y0, y1, y2, y3, y4, y5⟩ := (hSS.out _).1 hS
        go_simp
      (try simp only [Act.put, List.setIfInBounds_toArray, List.set_cons_zero, List.set_cons_succ])
      refine takeM (i := 20) (M := ([] : List Nat)) (S := SS) (d := some 48) (v := .slice A5 k5 c5) rfl rfl (by kernel_rfl) (by kernel_rfl) (by kernel_rfl) hQP.out (by kernel_rfl) (Or.inl ⟨by rfl, fun w' hS => ?_⟩) s0 ?_
      · obtain ⟨y0, y1, y2, y3, y4, y5⟩ := (hSS.out _).1 hS
        go_simp
      (try simp only [Act.put, List.setIfInBounds_toArray, List.set_cons_zero, List.set_cons_succ])
      refine wpAnyT_ready (rs := [21]) (by kernel_rfl) (by simp) ?_
      intro j hj
      rw [List.mem_singleton] at hj
      subst hj
      refine wpOpT_step (T := fun j w' => j ∈ ([] : List Nat) ∨ SS w') (by rfl) (fun K hK => ?_)
      go_simp
      (with_reducible refine ks.out.mono ?_)
      rintro e X2 ⟨rfl, q, rfl⟩
      have s1 := sq.out q
      refine hK.out _ _ ?_ ?_
      · exact .inr s1
      clear hK K
      (try simp only [Act.put, List.setIfInBounds_toArray, List.set_cons_zero, List.set_cons_succ])
      refine takeM (i := 22) (M := ([] : List Nat)) (S := SS) (d := some 50) (v := .bool false) rfl rfl (by kernel_rfl) (by kernel_rfl) (by kernel_rfl) hQP.out (by kernel_rfl) (Or.inl ⟨by rfl, fun w' hS => ?_⟩) s1 ?_
      · obtain ⟨y0, y1, y2, y3, y4, y5⟩ := (hSS.out _).1 hS
        go_simp
      (try simp only [Act.put, List.setIfInBounds_toArray, List.set_cons_zero, List.set_cons_succ])
      refine takeM (i := 23) (M := ([] : List Nat)) (S := SS) (d := some 51) (v := .bool false) rfl rfl (by kernel_rfl) (by kernel_rfl) (by kernel_rfl) hQP.out (by kernel_rfl) (Or.inl ⟨by rfl, fun w' hS => ?_⟩) s1 ?_
      · obtain ⟨y0, y1, y2, y3, y4, y5⟩ := (hSS.out _).1 hS
        go_simp
      (try simp only [Act.put, List.setIfInBounds_toArray, List.set_cons_zero, List.set_cons_succ])
      refine takeM (i := 24) (M := ([] : List Nat)) (S := SS) (d := some 52) (v := .slice (some ad) k c') rfl rfl (by kernel_rfl) (by kernel_rfl) (by kernel_rfl) hQP.out (by kernel_rfl) (Or.inl ⟨by rfl, fun w' hS => ?_⟩) s1 ?_
      · obtain ⟨y0, y1, y2, y3, y4, y5⟩ := (hSS.out _).1 hS
        go_simp
      (try simp only [Act.put, List.setIfInBounds_toArray, List.set_cons_zero, List.set_cons_succ])
      refine takeM (i := 25) (M := ([] : List Nat)) (S := SS) (d := some 53) (v := .pointer (some ad)) rfl rfl (by kernel_rfl) (by kernel_rfl) (by kernel_rfl) hQP.out (by kernel_rfl) (Or.inl ⟨by rfl, fun w' hS => ?_⟩) s1 ?_
      · obtain ⟨y0, y1, y2, y3, y4, y5⟩ := (hSS.out _).1 hS
        go_simp
      (try simp only [Act.put, List.setIfInBounds_toArray, List.set_cons_zero, List.set_cons_succ])
      refine takeM (i := 26) (M := ([] : List Nat)) (S := SS) (d := some 54) (v := .pointer (some ⟨ad.block, ad.off + 1, none⟩)) rfl rfl (by kernel_rfl) (by kernel_rfl) (by kernel_rfl) hQP.out (by kernel_rfl) (Or.inl ⟨by rfl, fun w' hS => ?_⟩) s1 ?_
      · obtain ⟨y0, y1, y2, y3, y4, y5⟩ := (hSS.out _).1 hS
        go_simp
      (try simp only [Act.put, List.setIfInBounds_toArray, List.set_cons_zero, List.set_cons_succ])
      refine takeM (i := 27) (M := ([] : List Nat)) (S := SS) (d := some 55) (v := .agg #[.int .i64 (N : Nat), .int .i64 (D : Nat)]) rfl rfl (by kernel_rfl) (by kernel_rfl) (by kernel_rfl) hQP.out (by kernel_rfl) (Or.inl ⟨by rfl, fun w' hS => ?_⟩) s1 ?_
      · obtain ⟨y0, y1, y2, y3, y4, y5⟩ := (hSS.out _).1 hS
        go_simp
      (try simp only [Act.put, List.setIfInBounds_toArray, List.set_cons_zero, List.set_cons_succ])
      refine takeM (i := 28) (M := ([] : List Nat)) (S := SS) (d := some 56) (v := .agg #[.int .i64 (N : Nat), .int .i64 (D : Nat)]) rfl rfl (by kernel_rfl) (by kernel_rfl) (by kernel_rfl) hQP.out (by kernel_rfl) (Or.inl ⟨by rfl, fun w' hS => ?_⟩) s1 ?_
      · obtain ⟨y0, y1, y2, y3, y4, y5⟩ := (hSS.out _).1 hS
        go_simp
      (try simp only [Act.put, List.setIfInBounds_toArray, List.set_cons_zero, List.set_cons_succ])
      refine takeM (i := 29) (M := ([] : List Nat)) (S := SS) (d := some 57) (v := .bool false) rfl rfl (by kernel_rfl) (by kernel_rfl) (by kernel_rfl) hQP.out (by kernel_rfl) (Or.inl ⟨by rfl, fun w' hS => ?_⟩) s1 ?_
      · obtain ⟨y0, y1, y2, y3, y4, y5⟩ := (hSS.out _).1 hS
        go_simp
      (try simp only [Act.put, List.setIfInBounds_toArray, List.set_cons_zero, List.set_cons_succ])
      refine takeM (i := 30) (M := ([] : List Nat)) (S := SS) (d := some 58) (v := .bool false) rfl rfl (by kernel_rfl) (by kernel_rfl) (by kernel_rfl) hQP.out (by kernel_rfl) (Or.inl ⟨by rfl, fun w' hS => ?_⟩) s1 ?_
      · obtain ⟨y0, y1, y2, y3, y4, y5⟩ := (hSS.out _).1 hS
        go_simp
      (try simp only [Act.put, List.setIfInBounds_toArray, List.set_cons_zero, List.set_cons_succ])
      refine takeM (i := 31) (M := ([] : List Nat)) (S := SS) (d := some 59) (v := .bool false) rfl rfl (by kernel_rfl) (by kernel_rfl) (by kernel_rfl) hQP.out (by kernel_rfl) (Or.inl ⟨by rfl, fun w' hS => ?_⟩) s1 ?_
      · obtain ⟨y0, y1, y2, y3, y4, y5⟩ := (hSS.out _).1 hS
        go_simp
      (try simp only [Act.put, List.setIfInBounds_toArray, List.set_cons_zero, List.set_cons_succ])
      refine takeM (i := 32) (M := ([] : List Nat)) (S := SS) (d := some 60) (v := .bool false) rfl rfl (by kernel_rfl) (by kernel_rfl) (by kernel_rfl) hQP.out (by kernel_rfl) (Or.inl ⟨by rfl, fun w' hS => ?_⟩) s1 ?_
      · obtain ⟨y0, y1, y2, y3, y4, y5⟩ := (hSS.out _).1 hS
        go_simp
      (try simp only [Act.put, List.setIfInBounds_toArray, List.set_cons_zero, List.set_cons_succ])
      refine wpAnyT_done (by kernel_rfl) (hQQ.out _ _ ?_) _
      clear hQQ hQP QQ
      go_wp2_with fail
      go_meet
      exact ⟨rfl, below_drewN b0 q⟩
  case rest =>
    obtain ⟨rfl, hbx⟩ := hcut
    obtain ⟨w7, rfl⟩ : ∃ w7, w7 = wc := ⟨_, rfl⟩
    have G7 := G6.below hbx G6.lt
    have E7 := E6.below hbx (Nat.le_refl _)
    have R7 := R6.below hbx
    have B7 := B6.trans (hbx.mono B6.size)
    clear G6 E6 R6 B6 hbx V6 F6 hall hBq
    go_upto_region 8 with fail
    go_loopw [9, 63] (fun iv i wr => ∃ (j inn ni ci : Nat) (AI : Option Addr), j ≤ k ∧ i = .int .i64 (j : Nat) ∧ iv = .slice AI ni ci ∧ RI wr AI ni (bset inn) ∧ Hid (Inn n inn ∧ LvP n es inn (ls.drop j) ∧ (0 < j → ∃ i' x' N' D', ls[j - 1]? = some (x', N', D') ∧ Lvl n es i' x' N' D' ∧ inn = i' ||| x')) ∧ Below w7.heap.size w7 wr) (fun _ i _ => k - (intOf i).toNat)
    case atStart => exact ⟨0, 0, 0, 0, none, Nat.zero_le _, rfl, rfl, (by rw [show bset 0 = [] by decide +kernel]; exact RI.none_), Lib.hid ⟨Inn.zero n, hP.out, fun h => absurd h (Nat.lt_irrefl _)⟩, Below.refl _ _⟩
    case round =>
      obtain ⟨j, inn, ni, ci, AI, hj, rfl, rfl, hI, hH, hb⟩ := hrel
      by_cases hlt : j < k
      · have i0 : (j : Int) < (k : Int) := by omega
        have i1 : (0 : Int) ≤ (j : Int) := by omega
        have Rr := R7.below hb
        have hlj : ls[j]? = some (ls[j]'(by rw [hll.out]; exact hlt)) := List.getElem?_eq_getElem _
        generalize ls[j]'(by rw [hll.out]; exact hlt) = lj at hlj
        obtain ⟨x, N, D⟩ := lj
        have hdr := drop_cons hlj
        have hPd : Hid (LvP n es inn ((x, N, D) :: ls.drop (j + 1))) := Lib.hid (by rw [← hdr]; exact hH.out.2.1)
        have hL : Lvl n es inn x N D := hPd.out.2.1
        obtain ⟨ad, rr, hA1, hab, hr, z0, z1, z2, z3, z4⟩ := rs_get5 Rr.rd hlt
        obtain ⟨rA, rn, rc, rN, rD, re, rP, rm, rk⟩ := rr
        obtain ⟨a1, a2, a3, a4, a5, a6, a7, -⟩ := Rr.el j _ _ hr.out hlj
        simp only at a1 a2 a3 a4 a5 a6 a7 z0 z1 z2 z3 z4
        subst a1; subst a2; subst a3; subst a4; subst a5; subst a6
        have hrn : rn ≤ 64 := by
          have h1 : rn = pop x := (by rw [← a7.len]; unfold bset; rw [nts_length, pop_bl])
          rw [h1]; exact pop_le x
        have hni : ni ≤ 64 := by
          have h1 : ni = pop inn := (by rw [← hI.len]; unfold bset; rw [nts_length, pop_bl])
          rw [h1]; exact pop_le inn
        have kg := Lib.hid (fun w h hI hS => lgain_any A m c n es AI ni ci inn rA rn rc x N D w h (by omega) hz.out (by omega) hI hS hH.out.1 hL)
        have OB := Blk.new wr 48 #[.slice rA rn rc, .int .i64 (N : Nat), .int .i64 (D : Nat), .int .i64 0, .slice none 0 0]
        have b8 := hb.alloc hb.size (.cells #[.slice rA rn rc, .int .i64 (N : Nat), .int .i64 (D : Nat), .int .i64 0, .slice none 0 0] 48)
        have I8 := hI.alloc (.cells #[.slice rA rn rc, .int .i64 (N : Nat), .int .i64 (D : Nat), .int .i64 0, .slice none 0 0] 48)
        have S8 := a7.alloc (.cells #[.slice rA rn rc, .int .i64 (N : Nat), .int .i64 (D : Nat), .int .i64 0, .slice none 0 0] 48)
        have E8 := E7.below b8 (Nat.le_refl _)
        have G8 := G7.below b8 G7.lt
        subst hA1
        go_upto_region 10 with fail
        clear z0 z1 z2 z3 z4 a7 hI hb Rr hr
        generalize wr.alloc (.cells #[.slice rA rn rc, .int .i64 (N : Nat), .int .i64 (D : Nat), .int .i64 0, .slice none 0 0] 48) = w8 at *
        generalize wr.heap.size = gx at *
        obtain ⟨d0, d1⟩ := blkG G8
        have x0 := Blk.cell OB 0
        simp at x0
        go_upto_region 11 with (first
          | (go_at_call 20; (with_reducible refine (kg.out _ E8 I8 S8).mono ?_); rintro e w9 ⟨rfl, hb9⟩)
          | fail)
        have OBa := (OB.below hb9 OB.lt).alloc (.cells #[.int .i64 (N : Nat), .int .i64 (D : Nat)] 36)
        have b10 := (b8.trans (hb9.mono b8.size)).alloc (b8.trans (hb9.mono b8.size)).size (.cells #[.int .i64 (N : Nat), .int .i64 (D : Nat)] 36)
        have I10 := (I8.below hb9 (Nat.le_refl _)).alloc (.cells #[.int .i64 (N : Nat), .int .i64 (D : Nat)] 36)
        have S10 := (S8.below hb9 (Nat.le_refl _)).alloc (.cells #[.int .i64 (N : Nat), .int .i64 (D : Nat)] 36)
        have F10 := Blk.new w9 36 #[.int .i64 (N : Nat), .int .i64 (D : Nat)]
        clear OB b8 I8 S8 E8 G8 hb9 kg d0 d1 x0
        generalize w9.alloc (.cells #[.int .i64 (N : Nat), .int .i64 (D : Nat)] 36) = w10 at *
        generalize w9.heap.size = gn' at *
        have OBl := OBa.lt
        have q4 : ((N : Int) != (N : Int)) = false := by simp
        have q5 : ((D : Int) != (D : Int)) = false := by simp
        have q6 : ((N : Int) == (N : Int)) = true := beq_self_eq_true _
        have q7 : ((D : Int) == (D : Int)) = true := beq_self_eq_true _
        go_cut [99] from 76 to 100 (fun t wx => t = .bool false ∧ Below w10.heap.size w10 wx)
        case first =>
          rcases Nat.eq_zero_or_pos j with hj0 | hj0
          · subst hj0
            obtain ⟨SS, hSS⟩ : ∃ SS : World → Prop, ∀ w', SS w' ↔ (w'.cell? ⟨gn', 0, none⟩ = some (.int .i64 (N : Nat)) ∧ w'.cell? ⟨gn', 1, none⟩ = some (.int .i64 (D : Nat)) ∧ w'.cell? ⟨gx, 1, none⟩ = some (.int .i64 (N : Nat)) ∧ w'.cell? ⟨gx, 2, none⟩ = some (.int .i64 (D : Nat))) := ⟨fun w' => _, fun _ => Iff.rfl⟩
            have s0 : SS w10.drew := (hSS _).2 ⟨by have := Blk.cell F10 0; simpa using this, by have := Blk.cell F10 1; simpa using this, by have := Blk.cell OBa 1; simpa using this, by have := Blk.cell OBa 2; simpa using this⟩
            replace hSS := Lib.hid hSS
            clear OBa b10 I10 S10 F10
            refine wp_region_TS (T := fun j w' => j ∈ ([] : List Nat) ∨ SS w') (by kernel_rfl) ?_
            intro QQ hQQ hQP
            have b0 : Below w10.heap.size w10 w10.drew := (Below.refl _ w10).drew
            generalize w10.drew = X at *
            refine takeM (i := 0) (M := ([] : List Nat)) (S := SS) (d := some 76) (v := .int .i64 0) rfl rfl (by kernel_rfl) (by kernel_rfl) (by kernel_rfl) hQP.out (by kernel_rfl) (Or.inl ⟨by rfl, fun w' hS => ?_⟩) s0 ?_
            · obtain ⟨y0, y1, y2, y3⟩ := (hSS.out _).1 hS
              go_simp
            (try simp only [Act.put, List.setIfInBounds_toArray, List.set_cons_zero, List.set_cons_succ])
            refine takeM (i := 1) (M := ([] : List Nat)) (S := SS) (d := some 77) (v := .bool false) rfl rfl (by kernel_rfl) (by kernel_rfl) (by kernel_rfl) hQP.out (by kernel_rfl) (Or.inl ⟨by rfl, fun w' hS => ?_⟩) s0 ?_
            · obtain ⟨y0, y1, y2, y3⟩ := (hSS.out _).1 hS
              go_simp
            (try simp only [Act.put, List.setIfInBounds_toArray, List.set_cons_zero, List.set_cons_succ])
            refine takeM (i := 2) (M := ([] : List Nat)) (S := SS) (d := some 78) (v := .bool false) rfl rfl (by kernel_rfl) (by kernel_rfl) (by kernel_rfl) hQP.out (by kernel_rfl) (Or.inl ⟨by rfl, fun w' hS => ?_⟩) s0 ?_
            · obtain ⟨y0, y1, y2, y3⟩ := (hSS.out _).1 hS
              go_simp
            (try simp only [Act.put, List.setIfInBounds_toArray, List.set_cons_zero, List.set_cons_succ])
            refine takeM (i := 3) (M := ([] : List Nat)) (S := SS) (d := some 79) (v := .agg #[.int .i64 (N : Nat), .int .i64 (D : Nat)]) rfl rfl (by kernel_rfl) (by kernel_rfl) (by kernel_rfl) hQP.out (by kernel_rfl) (Or.inl ⟨by rfl, fun w' hS => ?_⟩) s0 ?_
            · obtain ⟨y0, y1, y2, y3⟩ := (hSS.out _).1 hS
              go_simp
            (try simp only [Act.put, List.setIfInBounds_toArray, List.set_cons_zero, List.set_cons_succ])
            refine takeM (i := 4) (M := ([] : List Nat)) (S := SS) (d := some 80) (v := .pointer (some ⟨gx, 1, none⟩)) rfl rfl (by kernel_rfl) (by kernel_rfl) (by kernel_rfl) hQP.out (by kernel_rfl) (Or.inl ⟨by rfl, fun w' hS => ?_⟩) s0 ?_
            · obtain ⟨y0, y1, y2, y3⟩ := (hSS.out _).1 hS
              go_simp
            (try simp only [Act.put, List.setIfInBounds_toArray, List.set_cons_zero, List.set_cons_succ])
            refine takeM (i := 5) (M := ([] : List Nat)) (S := SS) (d := some 81) (v := .agg #[.int .i64 (N : Nat), .int .i64 (D : Nat)]) rfl rfl (by kernel_rfl) (by kernel_rfl) (by kernel_rfl) hQP.out (by kernel_rfl) (Or.inl ⟨by rfl, fun w' hS => ?_⟩) s0 ?_
            · obtain ⟨y0, y1, y2, y3⟩ := (hSS.out _).1 hS
              go_simp
            (try simp only [Act.put, List.setIfInBounds_toArray, List.set_cons_zero, List.set_cons_succ])
            refine takeM (i := 6) (M := ([] : List Nat)) (S := SS) (d := some 82) (v := .bool false) rfl rfl (by kernel_rfl) (by kernel_rfl) (by kernel_rfl) hQP.out (by kernel_rfl) (Or.inl ⟨by rfl, fun w' hS => ?_⟩) s0 ?_
            · obtain ⟨y0, y1, y2, y3⟩ := (hSS.out _).1 hS
              go_simp
            (try simp only [Act.put, List.setIfInBounds_toArray, List.set_cons_zero, List.set_cons_succ])
            refine takeM (i := 7) (M := ([] : List Nat)) (S := SS) (d := some 83) (v := .bool false) rfl rfl (by kernel_rfl) (by kernel_rfl) (by kernel_rfl) hQP.out (by kernel_rfl) (Or.inl ⟨by rfl, fun w' hS => ?_⟩) s0 ?_
            · obtain ⟨y0, y1, y2, y3⟩ := (hSS.out _).1 hS
              go_simp
            (try simp only [Act.put, List.setIfInBounds_toArray, List.set_cons_zero, List.set_cons_succ])
            refine takeM (i := 8) (M := ([] : List Nat)) (S := SS) (d := some 84) (v := .bool false) rfl rfl (by kernel_rfl) (by kernel_rfl) (by kernel_rfl) hQP.out (by kernel_rfl) (Or.inl ⟨by rfl, fun w' hS => ?_⟩) s0 ?_
            · obtain ⟨y0, y1, y2, y3⟩ := (hSS.out _).1 hS
              go_simp
            (try simp only [Act.put, List.setIfInBounds_toArray, List.set_cons_zero, List.set_cons_succ])
            refine takeM (i := 9) (M := ([] : List Nat)) (S := SS) (d := some 85) (v := .int .i64 0) rfl rfl (by kernel_rfl) (by kernel_rfl) (by kernel_rfl) hQP.out (by kernel_rfl) (Or.inl ⟨by rfl, fun w' hS => ?_⟩) s0 ?_
            · obtain ⟨y0, y1, y2, y3⟩ := (hSS.out _).1 hS
              go_simp
            (try simp only [Act.put, List.setIfInBounds_toArray, List.set_cons_zero, List.set_cons_succ])
            refine takeM (i := 10) (M := ([] : List Nat)) (S := SS) (d := some 86) (v := .bool false) rfl rfl (by kernel_rfl) (by kernel_rfl) (by kernel_rfl) hQP.out (by kernel_rfl) (Or.inl ⟨by rfl, fun w' hS => ?_⟩) s0 ?_
            · obtain ⟨y0, y1, y2, y3⟩ := (hSS.out _).1 hS
              go_simp
            (try simp only [Act.put, List.setIfInBounds_toArray, List.set_cons_zero, List.set_cons_succ])
            refine takeM (i := 11) (M := ([] : List Nat)) (S := SS) (d := some 87) (v := .bool false) rfl rfl (by kernel_rfl) (by kernel_rfl) (by kernel_rfl) hQP.out (by kernel_rfl) (Or.inl ⟨by rfl, fun w' hS => ?_⟩) s0 ?_
            · obtain ⟨y0, y1, y2, y3⟩ := (hSS.out _).1 hS
              go_simp
            (try simp only [Act.put, List.setIfInBounds_toArray, List.set_cons_zero, List.set_cons_succ])
            refine takeM (i := 12) (M := ([] : List Nat)) (S := SS) (d := some 88) (v := undef) rfl rfl (by kernel_rfl) (by kernel_rfl) (by kernel_rfl) hQP.out (by kernel_rfl) (Or.inr ⟨by rfl, rfl⟩) s0 ?_
            (try simp only [Act.put, List.setIfInBounds_toArray, List.set_cons_zero, List.set_cons_succ])
            refine takeM (i := 13) (M := ([] : List Nat)) (S := SS) (d := some 89) (v := undef) rfl rfl (by kernel_rfl) (by kernel_rfl) (by kernel_rfl) hQP.out (by kernel_rfl) (Or.inr ⟨by rfl, rfl⟩) s0 ?_
            (try simp only [Act.put, List.setIfInBounds_toArray, List.set_cons_zero, List.set_cons_succ])
            refine takeM (i := 14) (M := ([] : List Nat)) (S := SS) (d := some 90) (v := undef) rfl rfl (by kernel_rfl) (by kernel_rfl) (by kernel_rfl) hQP.out (by kernel_rfl) (Or.inr ⟨by rfl, rfl⟩) s0 ?_
            (try simp only [Act.put, List.setIfInBounds_toArray, List.set_cons_zero, List.set_cons_succ])
            refine takeM (i := 15) (M := ([] : List Nat)) (S := SS) (d := some 91) (v := undef) rfl rfl (by kernel_rfl) (by kernel_rfl) (by kernel_rfl) hQP.out (by kernel_rfl) (Or.inr ⟨by rfl, rfl⟩) s0 ?_
            (try simp only [Act.put, List.setIfInBounds_toArray, List.set_cons_zero, List.set_cons_succ])
            refine takeM (i := 16) (M := ([] : List Nat)) (S := SS) (d := some 92) (v := undef) rfl rfl (by kernel_rfl) (by kernel_rfl) (by kernel_rfl) hQP.out (by kernel_rfl) (Or.inr ⟨by rfl, rfl⟩) s0 ?_
            (try simp only [Act.put, List.setIfInBounds_toArray, List.set_cons_zero, List.set_cons_succ])
            refine takeM (i := 17) (M := ([] : List Nat)) (S := SS) (d := some 93) (v := undef) rfl rfl (by kernel_rfl) (by kernel_rfl) (by kernel_rfl) hQP.out (by kernel_rfl) (Or.inr ⟨by rfl, rfl⟩) s0 ?_
            (try simp only [Act.put, List.setIfInBounds_toArray, List.set_cons_zero, List.set_cons_succ])
            refine takeM (i := 18) (M := ([] : List Nat)) (S := SS) (d := some 94) (v := undef) rfl rfl (by kernel_rfl) (by kernel_rfl) (by kernel_rfl) hQP.out (by kernel_rfl) (Or.inr ⟨by rfl, rfl⟩) s0 ?_
            (try simp only [Act.put, List.setIfInBounds_toArray, List.set_cons_zero, List.set_cons_succ])
            refine takeM (i := 19) (M := ([] : List Nat)) (S := SS) (d := some 95) (v := undef) rfl rfl (by kernel_rfl) (by kernel_rfl) (by kernel_rfl) hQP.out (by kernel_rfl) (Or.inr ⟨by rfl, rfl⟩) s0 ?_
            (try simp only [Act.put, List.setIfInBounds_toArray, List.set_cons_zero, List.set_cons_succ])
            refine takeM (i := 20) (M := ([] : List Nat)) (S := SS) (d := some 96) (v := undef) rfl rfl (by kernel_rfl) (by kernel_rfl) (by kernel_rfl) hQP.out (by kernel_rfl) (Or.inr ⟨by rfl, rfl⟩) s0 ?_
            (try simp only [Act.put, List.setIfInBounds_toArray, List.set_cons_zero, List.set_cons_succ])
            refine takeM (i := 21) (M := ([] : List Nat)) (S := SS) (d := some 97) (v := undef) rfl rfl (by kernel_rfl) (by kernel_rfl) (by kernel_rfl) hQP.out (by kernel_rfl) (Or.inr ⟨by rfl, rfl⟩) s0 ?_
            (try simp only [Act.put, List.setIfInBounds_toArray, List.set_cons_zero, List.set_cons_succ])
            refine takeM (i := 22) (M := ([] : List Nat)) (S := SS) (d := some 98) (v := .bool false) rfl rfl (by kernel_rfl) (by kernel_rfl) (by kernel_rfl) hQP.out (by kernel_rfl) (Or.inl ⟨by rfl, fun w' hS => ?_⟩) s0 ?_
            · obtain ⟨y0, y1, y2, y3⟩ := (hSS.out _).1 hS
              go_simp
            (try simp only [Act.put, List.setIfInBounds_toArray, List.set_cons_zero, List.set_cons_succ])
            refine takeM (i := 23) (M := ([] : List Nat)) (S := SS) (d := some 99) (v := .bool false) rfl rfl (by kernel_rfl) (by kernel_rfl) (by kernel_rfl) hQP.out (by kernel_rfl) (Or.inl ⟨by rfl, fun w' hS => ?_⟩) s0 ?_
            · obtain ⟨y0, y1, y2, y3⟩ := (hSS.out _).1 hS
              go_simp
            (try simp only [Act.put, List.setIfInBounds_toArray, List.set_cons_zero, List.set_cons_succ])
            refine wpAnyT_done (by kernel_rfl) (hQQ.out _ _ ?_) _
            clear hQQ hQP QQ
            go_wp2_with fail
            go_meet
            exact ⟨rfl, b0⟩
          · obtain ⟨i', x', N', D', hlp, hLp, hin⟩ := hH.out.2.2 hj0
            obtain ⟨p, rfl⟩ : ∃ p, j = p + 1 := ⟨j - 1, by omega⟩
            rw [Nat.add_sub_cancel] at hlp
            have hL2 := hL
            rw [hin] at hL2
            have hcm := hLp.cmp hL2 hel.out
            have kcm := fun w => rCmp_any (N' : Int) (D' : Int) (N : Int) (D : Int) w
            rw [hcm] at kcm
            replace kcm := Lib.hid kcm
            have Rq := R7.below b10
            obtain ⟨ad2, r2, hA2, -, hr2, u0, u1, u2, u3, u4⟩ := rs_get5 Rq.rd (j := p) (by omega)
            obtain rfl : ad = ad2 := by injection hA2
            obtain ⟨sA, sn, sc, sN, sD, se, sP, sm, sk⟩ := r2
            obtain ⟨g1, g2, -, -, -, -, -, -⟩ := Rq.el p _ _ hr2.out hlp
            simp only at g1 g2 u1 u2
            subst g1; subst g2
            have hq5 : (ad.add (p * 5)).block < w10.heap.size := Lib.lt_of_cell u0
            have hwr : IntKind.i64.wrap (p : Int) = (p : Int) := by rw [IntKind.wrap_i64]; omega
            have q8 : (0 : Int) < (p : Int) + 1 := by omega
            have q9 : (0 : Int) < ((p + 1 : Nat) : Int) := by omega
            have q10 : (p : Int) < (k : Int) := by omega
            have q11 : (0 : Int) ≤ (p : Int) := by omega
            obtain ⟨SS, hSS⟩ : ∃ SS : World → Prop, ∀ w', SS w' ↔ (w'.cell? ⟨gn', 0, none⟩ = some (.int .i64 (N : Nat)) ∧ w'.cell? ⟨gn', 1, none⟩ = some (.int .i64 (D : Nat)) ∧ w'.cell? ⟨gx, 1, none⟩ = some (.int .i64 (N : Nat)) ∧ w'.cell? ⟨gx, 2, none⟩ = some (.int .i64 (D : Nat)) ∧ w'.cell? ⟨(ad.add (p * 5)).block, (ad.add (p * 5)).off + 1, none⟩ = some (.int .i64 (N' : Nat)) ∧ w'.cell? ⟨(ad.add (p * 5)).block, (ad.add (p * 5)).off + 1 + 1, none⟩ = some (.int .i64 (D' : Nat))) := ⟨fun w' => _, fun _ => Iff.rfl⟩
            have hsS : Hid (∀ w', Below w10.heap.size w10 w' → SS w') := Lib.hid (fun w' hb => (hSS _).2 ⟨by have := Blk.cell (F10.below hb F10.lt) 0; simpa using this, by have := Blk.cell (F10.below hb F10.lt) 1; simpa using this, by have := Blk.cell (OBa.below hb OBa.lt) 1; simpa using this, by have := Blk.cell (OBa.below hb OBa.lt) 2; simpa using this, (hb.cell (p := ⟨(ad.add (p * 5)).block, (ad.add (p * 5)).off + 1, none⟩) hq5).trans u1, (hb.cell (p := ⟨(ad.add (p * 5)).block, (ad.add (p * 5)).off + 1 + 1, none⟩) hq5).trans u2⟩)
            have s0 := hsS.out _ ((Below.refl _ w10).drew)
            replace hSS := Lib.hid hSS
            clear OBa b10 I10 S10 F10 Rq hr2 u0 u1 u2 u3 u4 hA2 hlp hLp hin hL2 hcm
            refine wp_region_TS (T := fun j w' => j ∈ ([] : List Nat) ∨ SS w') (by kernel_rfl) ?_
            intro QQ hQQ hQP
            have b0 : Below w10.heap.size w10 w10.drew := (Below.refl _ w10).drew
            generalize w10.drew = X at *
            refine takeM (i := 0) (M := ([] : List Nat)) (S := SS) (d := some 76) (v := .int .i64 0) rfl rfl (by kernel_rfl) (by kernel_rfl) (by kernel_rfl) hQP.out (by kernel_rfl) (Or.inl ⟨by rfl, fun w' hS => ?_⟩) s0 ?_
            · obtain ⟨y0, y1, y2, y3, y4, y5⟩ := (hSS.out _).1 hS
              go_simp
            (try simp only [Act.put, List.setIfInBounds_toArray, List.set_cons_zero, List.set_cons_succ])
            refine takeM (i := 1) (M := ([] : List Nat)) (S := SS) (d := some 77) (v := .bool false) rfl rfl (by kernel_rfl) (by kernel_rfl) (by kernel_rfl) hQP.out (by kernel_rfl) (Or.inl ⟨by rfl, fun w' hS => ?_⟩) s0 ?_
            · obtain ⟨y0, y1, y2, y3, y4, y5⟩ := (hSS.out _).1 hS
              go_simp
            (try simp only [Act.put, List.setIfInBounds_toArray, List.set_cons_zero, List.set_cons_succ])
            refine takeM (i := 2) (M := ([] : List Nat)) (S := SS) (d := some 78) (v := .bool false) rfl rfl (by kernel_rfl) (by kernel_rfl) (by kernel_rfl) hQP.out (by kernel_rfl) (Or.inl ⟨by rfl, fun w' hS => ?_⟩) s0 ?_
            · obtain ⟨y0, y1, y2, y3, y4, y5⟩ := (hSS.out _).1 hS
              go_simp
            (try simp only [Act.put, List.setIfInBounds_toArray, List.set_cons_zero, List.set_cons_succ])
            refine takeM (i := 3) (M := ([] : List Nat)) (S := SS) (d := some 79) (v := .agg #[.int .i64 (N : Nat), .int .i64 (D : Nat)]) rfl rfl (by kernel_rfl) (by kernel_rfl) (by kernel_rfl) hQP.out (by kernel_rfl) (Or.inl ⟨by rfl, fun w' hS => ?_⟩) s0 ?_
            · obtain ⟨y0, y1, y2, y3, y4, y5⟩ := (hSS.out _).1 hS
              go_simp
            (try simp only [Act.put, List.setIfInBounds_toArray, List.set_cons_zero, List.set_cons_succ])
            refine takeM (i := 4) (M := ([] : List Nat)) (S := SS) (d := some 80) (v := .pointer (some ⟨gx, 1, none⟩)) rfl rfl (by kernel_rfl) (by kernel_rfl) (by kernel_rfl) hQP.out (by kernel_rfl) (Or.inl ⟨by rfl, fun w' hS => ?_⟩) s0 ?_
            · obtain ⟨y0, y1, y2, y3, y4, y5⟩ := (hSS.out _).1 hS
              go_simp
            (try simp only [Act.put, List.setIfInBounds_toArray, List.set_cons_zero, List.set_cons_succ])
            refine takeM (i := 5) (M := ([] : List Nat)) (S := SS) (d := some 81) (v := .agg #[.int .i64 (N : Nat), .int .i64 (D : Nat)]) rfl rfl (by kernel_rfl) (by kernel_rfl) (by kernel_rfl) hQP.out (by kernel_rfl) (Or.inl ⟨by rfl, fun w' hS => ?_⟩) s0 ?_
            · obtain ⟨y0, y1, y2, y3, y4, y5⟩ := (hSS.out _).1 hS
              go_simp
            (try simp only [Act.put, List.setIfInBounds_toArray, List.set_cons_zero, List.set_cons_succ])
            refine takeM (i := 6) (M := ([] : List Nat)) (S := SS) (d := some 82) (v := .bool false) rfl rfl (by kernel_rfl) (by kernel_rfl) (by kernel_rfl) hQP.out (by kernel_rfl) (Or.inl ⟨by rfl, fun w' hS => ?_⟩) s0 ?_
            · obtain ⟨y0, y1, y2, y3, y4, y5⟩ := (hSS.out _).1 hS
              go_simp
            (try simp only [Act.put, List.setIfInBounds_toArray, List.set_cons_zero, List.set_cons_succ])
            refine takeM (i := 7) (M := ([] : List Nat)) (S := SS) (d := some 83) (v := .bool false) rfl rfl (by kernel_rfl) (by kernel_rfl) (by kernel_rfl) hQP.out (by kernel_rfl) (Or.inl ⟨by rfl, fun w' hS => ?_⟩) s0 ?_
            · obtain ⟨y0, y1, y2, y3, y4, y5⟩ := (hSS.out _).1 hS
              go_simp
            (try simp only [Act.put, List.setIfInBounds_toArray, List.set_cons_zero, List.set_cons_succ])
            refine takeM (i := 8) (M := ([] : List Nat)) (S := SS) (d := some 84) (v := .bool false) rfl rfl (by kernel_rfl) (by kernel_rfl) (by kernel_rfl) hQP.out (by kernel_rfl) (Or.inl ⟨by rfl, fun w' hS => ?_⟩) s0 ?_
            · obtain ⟨y0, y1, y2, y3, y4, y5⟩ := (hSS.out _).1 hS
              go_simp
            (try simp only [Act.put, List.setIfInBounds_toArray, List.set_cons_zero, List.set_cons_succ])
            refine takeM (i := 9) (M := ([] : List Nat)) (S := SS) (d := some 85) (v := .int .i64 ((p + 1 : Nat) : Int)) rfl rfl (by kernel_rfl) (by kernel_rfl) (by kernel_rfl) hQP.out (by kernel_rfl) (Or.inl ⟨by rfl, fun w' hS => ?_⟩) s0 ?_
            · obtain ⟨y0, y1, y2, y3, y4, y5⟩ := (hSS.out _).1 hS
              go_simp
            (try simp only [Act.put, List.setIfInBounds_toArray, List.set_cons_zero, List.set_cons_succ])
            refine takeM (i := 10) (M := ([] : List Nat)) (S := SS) (d := some 86) (v := .bool true) rfl rfl (by kernel_rfl) (by kernel_rfl) (by kernel_rfl) hQP.out (by kernel_rfl) (Or.inl ⟨by rfl, fun w' hS => ?_⟩) s0 ?_
            · obtain ⟨y0, y1, y2, y3, y4, y5⟩ := (hSS.out _).1 hS
              go_simp
            (try simp only [Act.put, List.setIfInBounds_toArray, List.set_cons_zero, List.set_cons_succ])
            refine takeM (i := 11) (M := ([] : List Nat)) (S := SS) (d := some 87) (v := .bool true) rfl rfl (by kernel_rfl) (by kernel_rfl) (by kernel_rfl) hQP.out (by kernel_rfl) (Or.inl ⟨by rfl, fun w' hS => ?_⟩) s0 ?_
            · obtain ⟨y0, y1, y2, y3, y4, y5⟩ := (hSS.out _).1 hS
              go_simp
            (try simp only [Act.put, List.setIfInBounds_toArray, List.set_cons_zero, List.set_cons_succ])
            refine takeM (i := 12) (M := ([] : List Nat)) (S := SS) (d := some 88) (v := .slice (some ad) k c') rfl rfl (by kernel_rfl) (by kernel_rfl) (by kernel_rfl) hQP.out (by kernel_rfl) (Or.inl ⟨by rfl, fun w' hS => ?_⟩) s0 ?_
            · obtain ⟨y0, y1, y2, y3, y4, y5⟩ := (hSS.out _).1 hS
              go_simp
            (try simp only [Act.put, List.setIfInBounds_toArray, List.set_cons_zero, List.set_cons_succ])
            refine takeM (i := 13) (M := ([] : List Nat)) (S := SS) (d := some 89) (v := .int .i64 ((p + 1 : Nat) : Int)) rfl rfl (by kernel_rfl) (by kernel_rfl) (by kernel_rfl) hQP.out (by kernel_rfl) (Or.inl ⟨by rfl, fun w' hS => ?_⟩) s0 ?_
            · obtain ⟨y0, y1, y2, y3, y4, y5⟩ := (hSS.out _).1 hS
              go_simp
            (try simp only [Act.put, List.setIfInBounds_toArray, List.set_cons_zero, List.set_cons_succ])
            refine takeM (i := 14) (M := ([] : List Nat)) (S := SS) (d := some 90) (v := .int .i64 (p : Nat)) rfl rfl (by kernel_rfl) (by kernel_rfl) (by kernel_rfl) hQP.out (by kernel_rfl) (Or.inl ⟨by rfl, fun w' hS => ?_⟩) s0 ?_
            · obtain ⟨y0, y1, y2, y3, y4, y5⟩ := (hSS.out _).1 hS
              go_simp
            (try simp only [Act.put, List.setIfInBounds_toArray, List.set_cons_zero, List.set_cons_succ])
            refine takeM (i := 15) (M := ([] : List Nat)) (S := SS) (d := some 91) (v := .pointer (some (ad.add (p * 5)))) rfl rfl (by kernel_rfl) (by kernel_rfl) (by kernel_rfl) hQP.out (by kernel_rfl) (Or.inl ⟨by rfl, fun w' hS => ?_⟩) s0 ?_
            · obtain ⟨y0, y1, y2, y3, y4, y5⟩ := (hSS.out _).1 hS
              go_simp
            (try simp only [Act.put, List.setIfInBounds_toArray, List.set_cons_zero, List.set_cons_succ])
            refine takeM (i := 16) (M := ([] : List Nat)) (S := SS) (d := some 92) (v := .pointer (some ⟨(ad.add (p * 5)).block, (ad.add (p * 5)).off + 1, none⟩)) rfl rfl (by kernel_rfl) (by kernel_rfl) (by kernel_rfl) hQP.out (by kernel_rfl) (Or.inl ⟨by rfl, fun w' hS => ?_⟩) s0 ?_
            · obtain ⟨y0, y1, y2, y3, y4, y5⟩ := (hSS.out _).1 hS
              go_simp
            (try simp only [Act.put, List.setIfInBounds_toArray, List.set_cons_zero, List.set_cons_succ])
            refine takeM (i := 17) (M := ([] : List Nat)) (S := SS) (d := some 93) (v := .agg #[.int .i64 (N' : Nat), .int .i64 (D' : Nat)]) rfl rfl (by kernel_rfl) (by kernel_rfl) (by kernel_rfl) hQP.out (by kernel_rfl) (Or.inl ⟨by rfl, fun w' hS => ?_⟩) s0 ?_
            · obtain ⟨y0, y1, y2, y3, y4, y5⟩ := (hSS.out _).1 hS
              go_simp
            (try simp only [Act.put, List.setIfInBounds_toArray, List.set_cons_zero, List.set_cons_succ])
            refine takeM (i := 18) (M := ([] : List Nat)) (S := SS) (d := some 94) (v := .pointer (some ⟨gx, 1, none⟩)) rfl rfl (by kernel_rfl) (by kernel_rfl) (by kernel_rfl) hQP.out (by kernel_rfl) (Or.inl ⟨by rfl, fun w' hS => ?_⟩) s0 ?_
            · obtain ⟨y0, y1, y2, y3, y4, y5⟩ := (hSS.out _).1 hS
              go_simp
            (try simp only [Act.put, List.setIfInBounds_toArray, List.set_cons_zero, List.set_cons_succ])
            refine takeM (i := 19) (M := ([] : List Nat)) (S := SS) (d := some 95) (v := .agg #[.int .i64 (N : Nat), .int .i64 (D : Nat)]) rfl rfl (by kernel_rfl) (by kernel_rfl) (by kernel_rfl) hQP.out (by kernel_rfl) (Or.inl ⟨by rfl, fun w' hS => ?_⟩) s0 ?_
            · obtain ⟨y0, y1, y2, y3, y4, y5⟩ := (hSS.out _).1 hS
              go_simp
            (try simp only [Act.put, List.setIfInBounds_toArray, List.set_cons_zero, List.set_cons_succ])
            refine wpAnyT_ready (rs := [20]) (by kernel_rfl) (by simp) ?_
            intro j hj
            rw [List.mem_singleton] at hj
            subst hj
            refine wpOpT_step (T := fun j w' => j ∈ ([] : List Nat) ∨ SS w') (by rfl) (fun K hK => ?_)
            go_simp
            (with_reducible refine (kcm.out _).mono ?_)
            rintro e X2 ⟨rfl, hbc⟩
            have b1 := b0.trans (hbc.mono b0.size)
            have s1 := hsS.out _ b1
            refine hK.out _ _ ?_ ?_
            · exact .inr s1
            clear hK K
            (try simp only [Act.put, List.setIfInBounds_toArray, List.set_cons_zero, List.set_cons_succ])
            refine takeM (i := 21) (M := ([] : List Nat)) (S := SS) (d := some 97) (v := .bool false) rfl rfl (by kernel_rfl) (by kernel_rfl) (by kernel_rfl) hQP.out (by kernel_rfl) (Or.inl ⟨by rfl, fun w' hS => ?_⟩) s1 ?_
            · obtain ⟨y0, y1, y2, y3, y4, y5⟩ := (hSS.out _).1 hS
              go_simp
            (try simp only [Act.put, List.setIfInBounds_toArray, List.set_cons_zero, List.set_cons_succ])
            refine takeM (i := 22) (M := ([] : List Nat)) (S := SS) (d := some 98) (v := .bool false) rfl rfl (by kernel_rfl) (by kernel_rfl) (by kernel_rfl) hQP.out (by kernel_rfl) (Or.inl ⟨by rfl, fun w' hS => ?_⟩) s1 ?_
            · obtain ⟨y0, y1, y2, y3, y4, y5⟩ := (hSS.out _).1 hS
              go_simp
            (try simp only [Act.put, List.setIfInBounds_toArray, List.set_cons_zero, List.set_cons_succ])
            refine takeM (i := 23) (M := ([] : List Nat)) (S := SS) (d := some 99) (v := .bool false) rfl rfl (by kernel_rfl) (by kernel_rfl) (by kernel_rfl) hQP.out (by kernel_rfl) (Or.inl ⟨by rfl, fun w' hS => ?_⟩) s1 ?_
            · obtain ⟨y0, y1, y2, y3, y4, y5⟩ := (hSS.out _).1 hS
              go_simp
            (try simp only [Act.put, List.setIfInBounds_toArray, List.set_cons_zero, List.set_cons_succ])
            refine wpAnyT_done (by kernel_rfl) (hQQ.out _ _ ?_) _
            clear hQQ hQP QQ
            go_wp2_with fail
            go_meet
            exact ⟨rfl, b1⟩
        case rest =>
          obtain ⟨rfl, hbx⟩ := hcut
          obtain ⟨w11, rfl⟩ : ∃ w11, w11 = wc := ⟨_, rfl⟩
          have b11 := b10.trans (hbx.mono b10.size)
          have I11 := I10.below hbx (Nat.le_refl _)
          have S11 := S10.below hbx (Nat.le_refl _)
          have O11 := OBa.below hbx OBl
          have x0 := Blk.cell O11 0
          simp at x0
          have ku := union_any AI rA ni ci rn rc (bset inn) (bset x) w11 I11 (by omega) S11 (by omega)
          rw [ofL_bset] at ku
          replace ku := Lib.hid ku
          have hnx : Hid (Inn n (inn ||| x) ∧ LvP n es (inn ||| x) (ls.drop (j + 1)) ∧ (0 < j + 1 → ∃ i' x' N' D', ls[j + 1 - 1]? = some (x', N', D') ∧ Lvl n es i' x' N' D' ∧ inn ||| x = i' ||| x')) := Lib.hid ⟨hH.out.1.or hL, hPd.out.2.2, fun _ => ⟨inn, x, N, D, by rw [Nat.add_sub_cancel]; exact hlj, hL, rfl⟩⟩
          clear hbx OBa I10 S10 F10 b10 I11 S11 hL hPd hlj hdr
          go_wp2_with (first
            | (go_at_call 22; (with_reducible refine ku.out.mono ?_); intro e w12 hq; obtain ⟨Au, nu, cu, rfl, hcu, hru, hbu, -⟩ := hq)
            | fail)
          go_roundw
          case rel => exact ⟨j + 1, inn ||| x, nu, cu, Au, by omega, by go_num, rfl, hru, hnx, b11.trans (hbu.mono b11.size)⟩
          case measure => simp [intOf]; omega
      · obtain rfl : j = k := by omega
        have i0 : ¬ (j : Int) < (j : Int) := by omega
        have hfull : inn = allM n := by
          have := hH.out.2.1
          rw [List.drop_of_length_le (by rw [hll.out]; exact Nat.le_refl _)] at this
          exact this
        subst hfull
        rw [bset_rng (show n ≤ 64 by omega)] at hI
        have hni : ni ≤ 64 := by
          have h1 := hI.len
          rw [rng_length] at h1
          omega
        have Gr := G7.below hb G7.lt
        have Br := B7.trans (hb.mono B7.size)
        obtain ⟨d0, d1⟩ := blkG Gr
        have kr := Lib.hid (range_any n (by omega) wr)
        clear hH R7 hP
        go_wp2_with (first
          | (go_at_call 23; (with_reducible refine kr.out.mono ?_); intro e w8 hq; obtain ⟨Ar, nr, cr, rfl, hcr, hrr, hbr, -⟩ := hq
             have hnr : nr ≤ 64 := (by have h1 := hrr.len; rw [rng_length] at h1; omega)
             have ks := Go.Proofs.YticekkjambkifaaDoor.same_any AI Ar ni ci nr cr (rng n) (rng n) w8 (hI.below hbr (Nat.le_refl _)) (by omega) hrr (by omega)
             rw [decide_eq_true rfl] at ks
             replace ks := Lib.hid ks
             have B8 := Br.trans (hbr.mono Br.size))
          | (go_at_call 19; (with_reducible refine ks.out.mono ?_); rintro e w9 ⟨rfl, q, rfl⟩
             have B9 := below_drewN B8 q
             have ka := Lib.hid (awake22_any (w8.drewN q) (hT.keep B9)))
          | (go_at_call 16; (with_reducible refine ka.out.mono ?_); rintro e w10 ⟨rfl, hb10⟩)
          | fail)
        go_ret
        exact ⟨rfl, B9.trans (hb10.mono B9.size)⟩
end Go.Proofs.YticekkjambkifaaDoor.Fl
