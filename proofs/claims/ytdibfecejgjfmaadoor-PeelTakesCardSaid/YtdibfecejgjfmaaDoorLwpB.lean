/- The law PeelRests: its walk. -/
import Derived.Test.YtdibfecejgjfmaaDoorPeeJ
import Derived.Test.YtdibfecejgjfmaaDoorGrfG
import Derived.Test.YtdibfecejgjfmaaDoorRefI
set_option linter.unusedVariables false
set_option linter.unusedSimpArgs false
namespace Go.Proofs.YtdibfecejgjfmaaDoor
open Go.RowKit CoBit CoRat Rt

/-- What the law Rests wants of the best rest. -/
structure RstF (n : Nat) (es : List (Int × Int)) (o : List Int) (b : Nat) (N D : Int) (S : List Int) : Prop where
  lt : b < n
  set : S = ofL (o.drop b)
  ok : okF N D = true
  le : ∀ k, k < n → cmpF (mkN (insE es (ofL (o.drop k)) : Nat) ((n - k : Nat) : Int)) (mkD (insE es (ofL (o.drop k)) : Nat) ((n - k : Nat) : Int)) N D ≤ 0
  ne : ∀ k, k < b → mkN (insE es (ofL (o.drop k)) : Nat) ((n - k : Nat) : Int) ≠ N ∨ mkD (insE es (ofL (o.drop k)) : Nat) ((n - k : Nat) : Int) ≠ D
  nd : D ≠ 0
  eq : mkN (insE es (ofL (o.drop b)) : Nat) ((n - b : Nat) : Int) = N ∧ mkD (insE es (ofL (o.drop b)) : Nat) ((n - b : Nat) : Int) = D
theorem ofL_len {n : Nat} {o : List Int} (ho : Per o n) (k : Nat) : (ofL (o.drop k)).length = n - k := by
  have hnd : (o.drop k).Nodup := (List.drop_sublist k o).nodup ho.2.1
  rw [((List.perm_ext_iff_of_nodup (sorted_nodup (of_sorted _)) hnd).2 fun x => by rw [mem_of]).length_eq, List.length_drop, ho.1]
theorem meet_rest {n : Nat} {o : List Int} (ho : Per o n) (k : Nat) : (meetL (ofL (o.drop k)) (rng n)).length = n - k := by
  have : meetL (ofL (o.drop k)) (rng n) = ofL (o.drop k) := by
    unfold meetL
    rw [show ofL (ofL (o.drop k)) = ofL (o.drop k) from sorted_ext (of_sorted _) (of_sorted _) fun x => by rw [mem_of]]
    refine List.filter_eq_self.2 fun x hx => ?_
    rw [mem_of] at hx
    have := ho.2.2 x (List.mem_of_mem_drop hx)
    simp only [decide_eq_true_eq]
    unfold rng
    rw [List.mem_map]
    exact ⟨x.toNat, List.mem_range.2 (by omega), by omega⟩
  rw [this, ofL_len ho]
theorem cmp_self {x y u v : Int} (h1 : x = u) (h2 : y = v) (c : Int) (h : cmpF x y u v = c) : cmpF u v u v = c := by rw [← h, h1, h2]
theorem rstF {n : Nat} {es : List (Int × Int)} {o : List Int} (hn : n ≤ 64) (ho : Per o n) (hes : es.length ≤ 68719476736) (h0 : 0 < n) :
    ∃ b, RstF n es o b (recK n es o n).2.1 (fixD (recK n es o n).2.2) (bset (recK n es o n).1) := by
  obtain ⟨b, hb, hr, h1, h2⟩ := rec_best (es := es) hn ho hes (n - 1) (by omega)
  rw [show n - 1 + 1 = n by omega] at hr
  have hI : ∀ j, iK n es o j ≤ 1152921504606846976 := fun j => Nat.le_trans (insE_le _ _) (by omega)
  have hS : ∀ j, sK n o j ≤ 1152921504606846976 := fun j => by rw [sK_eq hn ho]; omega
  have hs0 : ∀ j, j < n → 0 < sK n o j := fun j hj => by rw [sK_eq hn ho]; omega
  have hok := mk_ok (iK n es o b) (sK n o b) (hs0 b (by omega)) (hI b) (hS b)
  have hN : dnN es (lfK n o b) = mkN (iK n es o b : Nat) (sK n o b : Nat) := rfl
  have hD : dnD es (lfK n o b) = mkD (iK n es o b : Nat) (sK n o b : Nat) := rfl
  have hd : dnD es (lfK n o b) ≠ 0 := by
    have := okF_bd hok
    rw [hD]; omega
  have hik : ∀ k, insE es (ofL (o.drop k)) = iK n es o k := fun k => by unfold iK; rw [bset_rest hn ho]
  refine ⟨b, by omega, ?_, ?_, ?_, ?_, ?_, ?_⟩
  · rw [hr]; exact bset_rest hn ho b
  · rw [hr]
    dsimp only
    rw [show fixD (dnD es (lfK n o b)) = dnD es (lfK n o b) from if_neg hd, hN, hD]; exact hok
  · intro k hk
    rw [hr]
    dsimp only
    rw [show fixD (dnD es (lfK n o b)) = dnD es (lfK n o b) from if_neg hd, hN, hD, hik, ← sK_eq hn ho k, cmp_mk _ _ _ _ (hs0 k hk) (hs0 b (by omega)) (hI _) (hS _) (hI _) (hS _)]
    have := h1 k (by omega)
    obtain ⟨c1, c2, c3⟩ := cmp_pos (iK n es o k) (iK n es o b) (sK n o b) (sK n o k)
    rcases Nat.lt_or_ge (iK n es o k * sK n o b) (iK n es o b * sK n o k) with h | h
    · rw [c2 h]; omega
    · rw [c1 (by omega)]; omega
  · intro k hk
    rw [hr]
    dsimp only
    rw [show fixD (dnD es (lfK n o b)) = dnD es (lfK n o b) from if_neg hd, hN, hD, hik, ← sK_eq hn ho k]
    have hlt := h2 k hk
    by_cases e1 : mkN (iK n es o k : Nat) (sK n o k : Nat) = mkN (iK n es o b : Nat) (sK n o b : Nat)
    · refine .inr fun e2 => ?_
      have hc := cmp_mk (iK n es o k) (sK n o k) (iK n es o b) (sK n o b) (hs0 k (by omega)) (hs0 b (by omega)) (hI _) (hS _) (hI _) (hS _)
      have hc2 := cmp_mk (iK n es o b) (sK n o b) (iK n es o b) (sK n o b) (hs0 b (by omega)) (hs0 b (by omega)) (hI _) (hS _) (hI _) (hS _)
      have hc := cmp_self e1 e2 _ hc
      rw [hc] at hc2
      obtain ⟨c1, c2, c3⟩ := cmp_pos (iK n es o k) (iK n es o b) (sK n o b) (sK n o k)
      rw [c2 hlt, Int.sub_self] at hc2
      simp at hc2
    · exact .inl e1
  · rw [hr]
    dsimp only
    rw [show fixD (dnD es (lfK n o b)) = dnD es (lfK n o b) from if_neg hd]; exact hd
  · rw [hr]
    dsimp only
    rw [show fixD (dnD es (lfK n o b)) = dnD es (lfK n o b) from if_neg hd, hN, hD, hik, ← sK_eq hn ho b]
    exact ⟨rfl, rfl⟩
end Go.Proofs.YtdibfecejgjfmaaDoor

namespace Go.Proofs.YtdibfecejgjfmaaDoor
open Go.RowKit CoBit CoRat Rt

theorem okF_zero : okF 0 1 = true := by decide +kernel
theorem blkP {w : World} {g : Nat} {a b c d : Value} (h : Blk w g 33 #[a, b, c, d]) : w.cell? ⟨g, 0, none⟩ = some a ∧ w.cell? ⟨g, 1, none⟩ = some b ∧ w.cell? ⟨g, 2, none⟩ = some c ∧ w.cell? ⟨g, 3, none⟩ = some d := ⟨Blk.cell h 0, Blk.cell h 1, Blk.cell h 2, Blk.cell h 3⟩
theorem blkF {w : World} {g : Nat} {a b : Value} (h : Blk w g 31 #[a, b]) : w.cell? ⟨g, 0, none⟩ = some a ∧ w.cell? ⟨g, 1, none⟩ = some b := ⟨Blk.cell h 0, Blk.cell h 1⟩
theorem drop_inj {n : Nat} {o : List Int} (ho : Per o n) {i b : Nat} (hi : i ≤ n) (hb : b ≤ n) (h : ofL (o.drop i) = ofL (o.drop b)) : i = b := by
  have h1 := ofL_len ho i
  rw [h, ofL_len ho b] at h1
  omega

set_option maxRecDepth 100000 in
set_option maxHeartbeats 20000000 in
theorem lawRests_any (A0 : Option Addr) (m0 c0 : Nat) (l : List Int) (w : World) (hT : Tab w) (h0 : RI w A0 m0 l) (hmc : m0 ≤ c0) (hm0 : m0 ≤ 1152921504606846976) :
    Calls Tryd.prog 3 #[.slice A0 m0 c0] w fun e w' => e = .returned (.bool true) ∧ Below w.heap.size w w' := by
  go_enter Tryd.func3, Tryd.ntmps3
  go_wp2_with fail
  refine (new_any A0 m0 c0 l w h0 hmc hm0).mono ?_
  rintro e w1 ⟨rfl, hd1, hb1, hs1⟩
  go_wp2_with fail
  refine (mkgraph_any _ 9 _ hd1 (by omega)).mono ?_
  rintro e w2 ⟨n, es, A, m, c, rfl, hmcc, hr2, hf2, hsrt, hn9, hd2, hg2⟩
  have hz := Lib.hid (chk_of_srt hsrt (show (0 : Int) ≤ n by omega) (by omega))
  have hlen : m ≤ 81 := by
    have h1 := srt_len hsrt
    have h2 := hr2.len
    have h3 : n * n ≤ 9 * 9 := Nat.mul_le_mul hn9 hn9
    omega
  have hml := Lib.hid hr2.len
  have hb2 : Below w.heap.size w w2 := hb1.grown hg2 (by omega) (fun k hk => by injection hk with hk; omega)
  have hs2 := hb2.size
  have hA0 : Hid (∀ ad, A = some ad → some ad.block ≠ some w.heap.size) := Lib.hid fun ad h e => by have := hf2 ad h; injection e with e; omega
  clear hs1 hb1 hf2 hg2 h0
  go_wp2_with fail
  have hG := Blk.new w2 27 #[.int .i64 n, .slice A m c]
  have hr3 := hr2.alloc (.cells #[.int .i64 n, .slice A m c] 27)
  have hd3 := hd2.alloc (.cells #[.int .i64 n, .slice A m c] 27)
  have hb3 := hb2.alloc hs2 (.cells #[.int .i64 n, .slice A m c] 27)
  have hdl := hd2.lt
  clear hr2 hb2 hd2
  generalize w2.alloc (.cells #[.int .i64 n, .slice A m c] 27) = w3 at *
  generalize w2.heap.size = gg at *
  have hgl := hG.lt
  refine (mkorder_any w.heap.size n w3 hd3 (by omega)).mono ?_
  rintro e w4 ⟨o, Ao, no, co, rfl, hco, hO, hro, hfo, -, hg4⟩
  have hper : Per o n := hO
  replace hper := Lib.hid hper
  obtain rfl : no = n := by rw [← hro.len]; exact hper.out.1
  have hr4 := hr3.kept hg4 hA0.out
  have hG4 := hG.grown hg4 (by simp; omega)
  have hb4 := hb3.trans (grown_is_below hg4 (Nat.le_refl _) hb3.size)
  have hs4 := hb4.size
  obtain ⟨d0, d1⟩ := blkG hG4
  clear hr3 hG hd3 hg4 hb3 hO hfo
  go_wp2_with fail
  refine (prest_any A m c no es Ao no co o w4 (hT.keep hb4) hr4 (by omega) hro hz.out (by omega) hper.out).mono ?_
  rintro e w5 ⟨A3, n3, c3, A5, n5, c5, rfl, hc3, hc5, hr3, hr5, hb5, hf3, hf5⟩
  have hG5 := hG4.below hb5 hG4.lt
  have hr4' := hr4.below hb5 (Nat.le_refl _)
  have hro5 := RI.below hro hb5 (Nat.le_refl _)
  have hb05 := hb4.trans (hb5.mono hb4.size)
  have hRF := Lib.hid (fun h => rstF (n := no) (es := es) (o := o) (by omega) hper.out (by rw [hml.out]; omega) h)
  have hR0 : Hid (no = 0 → recK no es o no = (0, 0, 0)) := Lib.hid fun h => by subst h; rfl
  clear hf3 hf5 hb5 hb4 hr4 hG4 hro d0 d1
  go_upto_region 5 with fail
  have P6 := Blk.new w5 33 #[.slice A3 n3 c3, .slice A5 n5 c5, .int .i64 (recK no es o no).2.1, .int .i64 (fixD (recK no es o no).2.2)]
  have hG6 := hG5.alloc (.cells #[.slice A3 n3 c3, .slice A5 n5 c5, .int .i64 (recK no es o no).2.1, .int .i64 (fixD (recK no es o no).2.2)] 33)
  have hr6 := hr4'.alloc (.cells #[.slice A3 n3 c3, .slice A5 n5 c5, .int .i64 (recK no es o no).2.1, .int .i64 (fixD (recK no es o no).2.2)] 33)
  have ho6 := hro5.alloc (.cells #[.slice A3 n3 c3, .slice A5 n5 c5, .int .i64 (recK no es o no).2.1, .int .i64 (fixD (recK no es o no).2.2)] 33)
  have hp6 := hr3.alloc (.cells #[.slice A3 n3 c3, .slice A5 n5 c5, .int .i64 (recK no es o no).2.1, .int .i64 (fixD (recK no es o no).2.2)] 33)
  have hS6 := hr5.alloc (.cells #[.slice A3 n3 c3, .slice A5 n5 c5, .int .i64 (recK no es o no).2.1, .int .i64 (fixD (recK no es o no).2.2)] 33)
  have hb6 := hb05.alloc hb05.size (.cells #[.slice A3 n3 c3, .slice A5 n5 c5, .int .i64 (recK no es o no).2.1, .int .i64 (fixD (recK no es o no).2.2)] 33)
  clear hG5 hr4' hro5 hr3 hr5 hb05
  generalize w5.alloc (.cells #[.slice A3 n3 c3, .slice A5 n5 c5, .int .i64 (recK no es o no).2.1, .int .i64 (fixD (recK no es o no).2.2)] 33) = w6 at *
  generalize w5.heap.size = gp at *
  obtain ⟨p0, p1, p2, p3⟩ := blkP P6
  have hn3 : n3 ≤ 64 := by rw [← hp6.len, hper.out.1]; omega
  have hn5 : n5 ≤ 64 := by rw [← hS6.len]; exact bset_length _
  have ks := same_any A3 Ao n3 c3 no co o o w6 hp6 (by omega) ho6 (by omega)
  rw [decide_eq_true (rfl : o = o)] at ks
  replace ks := Lib.hid ks
  go_wp2_with fail
  refine ks.out.mono ?_
  rintro e w7 ⟨rfl, q, rfl⟩
  clear ks hp6 p0
  generalize hN : (recK no es o no).2.1 = N at *
  generalize hD : fixD (recK no es o no).2.2 = D at *
  generalize hSS : bset (recK no es o no).1 = SS at *
  have hP7 := Blk.drewN P6 q
  have hG7 := Blk.drewN hG6 q
  have hr7 := RE.drewN hr6 q
  have ho7 := RI.drewN ho6 q
  have hS7 := RI.drewN hS6 q
  have hb7 := below_drewN hb6 q
  clear P6 hG6 hr6 ho6 hS6 hb6 p1 p2 p3
  generalize w6.drewN q = w7 at *
  have hTz := hT.keep hb7
  by_cases hn0 : no = 0
  · have hr := hR0.out hn0
    rw [hr] at hN hD
    obtain rfl : N = 0 := hN.symm
    obtain rfl : D = 1 := hD.symm
    clear hr hR0 hRF hSS
    subst hn0
    obtain ⟨p0, p1, p2, p3⟩ := blkP hP7
    have kv := fun w => rvalid_any 0 1 w
    rw [okF_zero] at kv
    replace kv := Lib.hid kv
    go_wp2_with fail
    go_loopw [8, 41] (fun f i wr => i = .int .i64 0 ∧ f = .bool true ∧ w7 = wr) (fun _ i _ => 0)
    case atStart => exact ⟨rfl, rfl, rfl⟩
    case round =>
      obtain ⟨rfl, rfl, rfl⟩ := hrel
      go_wp2_with fail
      refine (kv.out _).mono ?_
      rintro e w8 ⟨rfl, hb8⟩
      have hb08 := hb7.trans (hb8.mono hb7.size)
      clear p0 p1 p2 p3
      go_wp2_with fail
      refine (awake20_any _ (hT.keep hb08)).mono ?_
      rintro e we ⟨rfl, hbe⟩
      have hbz := hb08.trans (hbe.mono hb08.size)
      go_wp2_with fail
      go_ret
      exact ⟨rfl, hbz⟩
  · obtain ⟨b, hF⟩ := hRF.out (by omega)
    have hblt := hF.lt
    have hset := Lib.hid hF.set
    have hok := Lib.hid hF.ok
    have hle := Lib.hid hF.le
    have hne := Lib.hid hF.ne
    have heq := Lib.hid hF.eq
    clear hF hR0 hRF hN hD hSS
    have qn : ((no : Int) == 0) = false := by rw [beq_eq_false_iff_ne]; omega
    have kv := fun w => rvalid_any N D w
    rw [hok.out] at kv
    replace kv := Lib.hid kv
    have hpl := hP7.lt
    go_wp2_with fail
    go_loopw [8, 41] (fun f i wr => ∃ k : Nat, k ≤ no ∧ i = .int .i64 k ∧ f = .bool (decide (b < k)) ∧ Below w7.heap.size w7 wr) (fun _ i _ => no - (intOf i).toNat)
    case atStart => exact ⟨0, Nat.zero_le _, rfl, by simp, Below.refl _ _⟩
    case round =>
      obtain ⟨k, hk, rfl, rfl, hb⟩ := hrel
      by_cases hlt : k < no
      · have hr := hr7.below hb (Nat.le_refl _)
        have hP := hP7.below hb hpl
        have hG := hG7.below hb hG7.lt
        have hor := RI.below ho7 hb (Nat.le_refl _)
        have hSr := RI.below hS7 hb (Nat.le_refl _)
        obtain ⟨d0, d1⟩ := blkG hG
        have hcut := RI.cut hor (k := k) (cap := co) (by omega) hco
        rw [if_neg (show ¬ co = k by omega)] at hcut
        have i0 : (0 : Int) ≤ (k : Int) := Int.natCast_nonneg _
        have i1 : (k : Int) < (no : Int) := by omega
        have i2 : (k : Int) ≤ (no : Int) := by omega
        go_wp2_with fail
        (with_reducible refine (of_any _ _ _ _ wr hcut (by omega)).mono ?_)
        rintro e w8 ⟨A8, n8, c8, rfl, hc8, hr8, hb8, hf8⟩
        have hr9 := hr.below hb8 (Nat.le_refl _)
        have hb08 := hb.trans (hb8.mono hb.size)
        have hG8 := hG.below hb8 hG.lt
        have hn8 : n8 ≤ 64 := by rw [← hr8.len, ofL_len hper.out]; omega
        have kds := fun w h hl => rdensity_any A m c no es A8 n8 c8 (ofL (o.drop k)) w h (by omega) hz.out (by omega) hl (by omega)
        rw [meet_rest hper.out k, show dseN es (ofL (o.drop k)) (no - k) = mkN (insE es (ofL (o.drop k)) : Nat) ((no - k : Nat) : Int) from if_neg (by omega), show dseD es (ofL (o.drop k)) (no - k) = mkD (insE es (ofL (o.drop k)) : Nat) ((no - k : Nat) : Int) from if_neg (by omega)] at kds
        have hlek := hle.out k hlt
        have hnek := hne.out k
        have heqk : k = b → mkN (insE es (ofL (o.drop k)) : Nat) ((no - k : Nat) : Int) = N ∧ mkD (insE es (ofL (o.drop k)) : Nat) ((no - k : Nat) : Int) = D := fun h => by subst h; exact heq.out
        have kcm := fun w => rCmp_any (mkN (insE es (ofL (o.drop k)) : Nat) ((no - k : Nat) : Int)) (mkD (insE es (ofL (o.drop k)) : Nat) ((no - k : Nat) : Int)) N D w
        generalize mkN (insE es (ofL (o.drop k)) : Nat) ((no - k : Nat) : Int) = xN at *
        generalize mkD (insE es (ofL (o.drop k)) : Nat) ((no - k : Nat) : Int) = xD at *
        generalize cmpF xN xD N D = C at *
        have qC : decide (0 < C) = false := by simpa using hlek
        replace kds := Lib.hid kds
        replace kcm := Lib.hid kcm
        replace hnek := Lib.hid hnek
        replace heqk := Lib.hid heqk
        obtain ⟨d0', d1'⟩ := blkG hG8
        clear hlek d0 d1 hcut hr hG hor hSr hP hb8 hf8
        go_wp2_with fail
        (with_reducible refine (kds.out _ hr9 hr8).mono ?_)
        rintro e w9 ⟨rfl, hb9⟩
        go_upto_region 13 with fail
        have hX := Blk.new w9 31 #[.int .i64 xN, .int .i64 xD]
        have hb10 := (hb08.trans (hb9.mono hb08.size)).alloc (hb08.trans (hb9.mono hb08.size)).size (.cells #[.int .i64 xN, .int .i64 xD] 31)
        have hl10 := (RI.below hr8 hb9 (Nat.le_refl _)).alloc (.cells #[.int .i64 xN, .int .i64 xD] 31)
        clear hr9 hb08 hG8 hr8 hb9 d0' d1' kds
        generalize w9.alloc (.cells #[.int .i64 xN, .int .i64 xD] 31) = wa at *
        generalize w9.heap.size = gx at *
        have hPa := hP7.below hb10 hpl
        obtain ⟨p0, p1, p2, p3⟩ := blkP hPa
        obtain ⟨x0, x1⟩ := blkF hX
        have hfl := Lib.hid (fun w h1 h2 => same_any A8 A5 n8 c8 n5 c5 (ofL (o.drop k)) SS w h1 (by omega) h2 (by omega))
        rcases Nat.lt_trichotomy b k with hbk | hbk | hbk
        · have qb : decide (b < k) = true := decide_eq_true hbk
          have qb' := Lib.hid (decide_eq_true (show b < k + 1 by omega) : decide (b < k + 1) = true)
          rw [qb]
          clear hbk qb hfl
          go_wp2_with fail
          refine (kcm.out _).mono ?_
          rintro e wb ⟨rfl, hbb⟩
          have hb11 := hb10.trans (hbb.mono hb10.size)
          clear hb10 hbb hX hPa p0 p1 p2 p3 x0 x1 hl10
          go_wp2_with fail
          go_roundw
          case rel => exact ⟨k + 1, by omega, by go_num, by rw [qb'.out], hb11⟩
          case measure => simp [intOf]; omega
        · have qb : decide (b < k) = false := decide_eq_false (by omega)
          have qb' := Lib.hid (decide_eq_true (show b < k + 1 by omega) : decide (b < k + 1) = true)
          rw [qb]
          obtain ⟨e1, e2⟩ := heqk.out hbk.symm
          obtain rfl := e1
          obtain rfl := e2
          have hsm : decide (ofL (o.drop k) = SS) = true := decide_eq_true (by rw [hset.out, hbk])
          have hfl := hfl.out
          rw [hsm] at hfl
          replace hfl := Lib.hid hfl
          clear hbk qb hsm
          go_wp2_with fail
          refine (kcm.out _).mono ?_
          rintro e wb ⟨rfl, hbb⟩
          have hb11 := hb10.trans (hbb.mono hb10.size)
          have hX1 := hX.below hbb hX.lt
          have hP1 := hPa.below hbb hPa.lt
          have hl1 := RI.below hl10 hbb (Nat.le_refl _)
          have hS1 := RI.below hS7 hb11 (Nat.le_refl _)
          clear hb10 hbb hX hPa p0 p1 p2 p3 x0 x1 hl10
          obtain ⟨p0, p1, p2, p3⟩ := blkP hP1
          obtain ⟨x0, x1⟩ := blkF hX1
          go_wp2_with fail
          (with_reducible refine (hfl.out _ hl1 hS1).mono ?_)
          rintro e wc ⟨rfl, q1, rfl⟩
          go_wp2_with fail
          (with_reducible refine (hfl.out _ (hl1.drewN q1) (hS1.drewN q1)).mono ?_)
          rintro e wd ⟨rfl, q2, rfl⟩
          go_wp2_with fail
          go_roundw
          case rel => exact ⟨k + 1, by omega, by go_num, by rw [qb'.out], below_drewN hb11 _⟩
          case measure => simp [intOf]; omega
        · have qb : decide (b < k) = false := decide_eq_false (by omega)
          have qb' := Lib.hid (decide_eq_false (show ¬ b < k + 1 by omega) : decide (b < k + 1) = false)
          rw [qb]
          have hsm : decide (ofL (o.drop k) = SS) = false := decide_eq_false (by rw [hset.out]; intro h; have := drop_inj hper.out (by omega) (by omega) h; omega)
          have hfl := hfl.out
          rw [hsm] at hfl
          replace hfl := Lib.hid hfl
          have qe : (xN == N) = false ∨ ((xN == N) = true ∧ (xD == D) = false) := by
            by_cases e1 : xN = N
            · refine .inr ⟨by simp [e1], ?_⟩
              rw [beq_eq_false_iff_ne]
              rcases hnek.out hbk with h | h
              · exact absurd e1 h
              · exact h
            · exact .inl (by rw [beq_eq_false_iff_ne]; exact e1)
          clear hbk qb hsm
          go_wp2_with fail
          refine (kcm.out _).mono ?_
          rintro e wb ⟨rfl, hbb⟩
          have hb11 := hb10.trans (hbb.mono hb10.size)
          have hX1 := hX.below hbb hX.lt
          have hP1 := hPa.below hbb hPa.lt
          have hl1 := RI.below hl10 hbb (Nat.le_refl _)
          have hS1 := RI.below hS7 hb11 (Nat.le_refl _)
          clear hb10 hbb hX hPa p0 p1 p2 p3 x0 x1 hl10
          obtain ⟨p0, p1, p2, p3⟩ := blkP hP1
          obtain ⟨x0, x1⟩ := blkF hX1
          rcases qe with qe | ⟨qe, qf⟩
          all_goals
            go_wp2_with fail
            (with_reducible refine (hfl.out _ hl1 hS1).mono ?_)
            rintro e wc ⟨rfl, q1, rfl⟩
            go_wp2_with fail
            go_roundw
            case rel => exact ⟨k + 1, by omega, by go_num, by rw [qb'.out], below_drewN hb11 _⟩
            case measure => simp [intOf]; omega
      · obtain rfl : k = no := by omega
        rw [decide_eq_true hblt]
        have hb09 := hb7.trans (hb.mono hb7.size)
        have hP := hP7.below hb hpl
        obtain ⟨p0, p1, p2, p3⟩ := blkP hP
        go_wp2_with fail
        refine (kv.out _).mono ?_
        rintro e w8 ⟨rfl, hb8⟩
        have hb08 := hb09.trans (hb8.mono hb09.size)
        clear p0 p1 p2 p3
        go_wp2_with fail
        refine (awake20_any _ (hT.keep hb08)).mono ?_
        rintro e we ⟨rfl, hbe⟩
        have hbz := hb08.trans (hbe.mono hb08.size)
        go_wp2_with fail
        go_ret
        exact ⟨rfl, hbz⟩
end Go.Proofs.YtdibfecejgjfmaaDoor
