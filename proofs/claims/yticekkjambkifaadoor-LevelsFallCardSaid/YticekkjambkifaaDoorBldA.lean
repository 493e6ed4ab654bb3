/- levels.build and levels.Build. -/
import Derived.Test.YticekkjambkifaaDoorStpB
set_option linter.unusedVariables false
set_option linter.unusedSimpArgs false
namespace Go.Proofs.YticekkjambkifaaDoor.Fl
open Go.RowKit Go.Proofs.YticekkjambkifaaDoor CoBit CoRat Rt

/-- The levels between two inner sets. -/
def LvTo (n : Nat) (es : List (Int × Int)) : Nat → List (Nat × Nat × Nat) → Nat → Prop
  | i, [], j => i = j
  | i, (x, N, D) :: ls, j => i ≠ allM n ∧ Lvl n es i x N D ∧ LvTo n es (i ||| x) ls j
theorem LvTo.snoc {n : Nat} {es : List (Int × Int)} {ls : List (Nat × Nat × Nat)} {i j x N D : Nat} (h : LvTo n es i ls j) (hj : j ≠ allM n) (hl : Lvl n es j x N D) : LvTo n es i (ls ++ [(x, N, D)]) (j ||| x) := by
  induction ls generalizing i with
  | nil => obtain rfl : i = j := h; exact ⟨hj, hl, rfl⟩
  | cons a ls ih => obtain ⟨y, P, Q⟩ := a; exact ⟨h.1, h.2.1, ih h.2.2⟩
theorem LvTo.all {n : Nat} {es : List (Int × Int)} {ls : List (Nat × Nat × Nat)} {i : Nat} (h : LvTo n es i ls (allM n)) : LvP n es i ls := by
  induction ls generalizing i with
  | nil => exact h
  | cons a ls ih => obtain ⟨y, P, Q⟩ := a; exact ⟨h.1, h.2.1, ih h.2.2⟩
/-- A set of nodes below n. -/
def Inn (n i : Nat) : Prop := ∀ v, i.testBit v = true → v < n
theorem Inn.zero (n : Nat) : Inn n 0 := fun v h => by rw [Nat.zero_testBit] at h; cases h
theorem Inn.lt64 {n i : Nat} (h : Inn n i) (hn : n ≤ 64) : i < 18446744073709551616 := mask_lt (Nat.le_refl 64) fun v hv => Nat.lt_of_lt_of_le (h v hv) hn
theorem Inn.or {n i x : Nat} {es : List (Int × Int)} {N D : Nat} (h : Inn n i) (hl : Lvl n es i x N D) : Inn n (i ||| x) := fun v hv => by
  rw [Nat.testBit_or, Bool.or_eq_true] at hv
  exact hv.elim (h v) (fun h => (hl.off v h).1)
theorem Inn.off_pos {n i : Nat} (h : Inn n i) (hn : n ≤ 64) (hne : i ≠ allM n) : 0 < pop (offM n i) := by
  rw [pop_bl]
  refine Nat.pos_of_ne_zero fun h0 => hne ?_
  have hnil : bl (offM n i) = [] := List.eq_nil_of_length_eq_zero h0
  refine Nat.eq_of_testBit_eq fun v => ?_
  rw [allM_bit]
  by_cases hv : v < n
  · rw [decide_eq_true hv]
    cases hc : i.testBit v with
    | true => rfl
    | false =>
      exfalso
      have : v ∈ bl (offM n i) := mem_bl.2 ⟨by omega, by rw [offM_bit, decide_eq_true hv, hc]; rfl⟩
      rw [hnil] at this; cases this
  · rw [decide_eq_false hv]
    cases hc : i.testBit v with
    | false => rfl
    | true => exact absurd (h v hc) hv
theorem pop_disj {i x : Nat} (h : ∀ v, x.testBit v = true → i.testBit v = false) : pop (i ||| x) = pop i + pop x := by
  rw [pop_bl, pop_bl, pop_bl]
  unfold bl bitsIn
  simp only [Nat.testBit_or]
  have : ∀ l : List Nat, (l.filter fun v => i.testBit v || x.testBit v).length = (l.filter fun v => i.testBit v).length + (l.filter fun v => x.testBit v).length := fun l => by
    induction l with
    | nil => rfl
    | cons a l ih =>
      rw [List.filter_cons, List.filter_cons, List.filter_cons]
      have h1 := h a
      cases c1 : i.testBit a <;> cases c2 : x.testBit a
      · simp [ih]
      · simp [ih]; omega
      · simp [ih]; omega
      · rw [c2] at h1; rw [h1 rfl] at c1; cases c1
  exact this _
theorem Inn.low {n i : Nat} (h : Inn n i) (hn : n ≤ 64) : bl i = (List.range n).filter fun v => i.testBit v := by
  unfold bl bitsIn
  rw [← List.range_eq_range']
  have e : List.range 64 = List.range n ++ (List.range (64 - n)).map (n + ·) := by rw [← List.range_add, show n + (64 - n) = 64 by omega]
  rw [e, List.filter_append]
  rw [show ((List.range (64 - n)).map (n + ·)).filter (fun v => i.testBit v) = [] from List.filter_eq_nil_iff.2 fun v hv hb => by
    obtain ⟨u, -, rfl⟩ := List.mem_map.1 hv
    have := h _ hb
    omega]
  rw [List.append_nil]
theorem Inn.pop_le {n i : Nat} (h : Inn n i) (hn : n ≤ 64) : pop i ≤ n := by
  rw [pop_bl, h.low hn]
  exact Nat.le_trans (List.length_filter_le _ _) (by simp)
theorem Inn.full {n i : Nat} (h : Inn n i) (hn : n ≤ 64) (hp : n ≤ pop i) : i = allM n := by
  have hle := h.pop_le hn
  rw [pop_bl, h.low hn] at hp hle
  have hall := List.length_filter_eq_length_iff.1 (show ((List.range n).filter fun v => i.testBit v).length = (List.range n).length by rw [List.length_range]; omega)
  refine Nat.eq_of_testBit_eq fun v => ?_
  rw [allM_bit]
  by_cases hv : v < n
  · rw [decide_eq_true hv]; exact hall v (List.mem_range.2 hv)
  · rw [decide_eq_false hv]
    cases hc : i.testBit v with
    | false => rfl
    | true => exact absurd (h v hc) hv
/-- A list of levels that reads. -/
structure LvR (w : World) (A : Option Addr) (k : Nat) (ls : List (Nat × Nat × Nat)) (rs : List Dn) : Prop where
  rd : RS DE w A k rs
  len : rs.length = ls.length
  el : ∀ (i : Nat) (r : Dn) (l : Nat × Nat × Nat), rs[i]? = some r → ls[i]? = some l → IsLv w r l
theorem LvR.below {w w' : World} {A : Option Addr} {k : Nat} {ls : List (Nat × Nat × Nat)} {rs : List Dn} (h : LvR w A k ls rs) (hb : Below w.heap.size w w') : LvR w' A k ls rs :=
  ⟨h.rd.below hb (Nat.le_refl _), h.len, fun i r l h1 h2 => by
    obtain ⟨a1, a2, a3, a4, a5, a6, a7, a8⟩ := h.el i r l h1 h2
    exact ⟨a1, a2, a3, a4, a5, a6, a7.below hb (Nat.le_refl _), a8⟩⟩
theorem LvR.llen {w : World} {A : Option Addr} {k : Nat} {ls : List (Nat × Nat × Nat)} {rs : List Dn} (h : LvR w A k ls rs) : ls.length = k := by rw [← h.len]; exact h.rd.len
/-- An address that is a block's begin. -/
def At0 (A : Option Addr) : Prop := ∀ ad, A = some ad → ∃ g, ad = ⟨g, 0, none⟩
theorem os_at0 {α : Type} {E : El α} {t : TypeId} {w : World} {B n c : Nat} {A : Option Addr} {xs : List α} (h : OS E t w B (.slice A n c) xs) : At0 A := fun ad e => by
  rcases h.2 with ⟨hv, _⟩ | ⟨g', cap, cur, hv, _⟩
  · injection hv with h1; rw [e] at h1; cases h1
  · injection hv with h1; rw [e] at h1; injection h1 with h1; exact ⟨g', h1⟩
def RetBld (w : World) (n : Nat) (es : List (Int × Int)) (e : Ending) (w' : World) : Prop := ∃ (A : Option Addr) (k c : Nat) (ls : List (Nat × Nat × Nat)) (rs : List Dn), e = .returned (.slice A k c) ∧ k ≤ c ∧ LvP n es 0 ls ∧ LvR w' A k ls rs ∧ Below w.heap.size w w' ∧ k ≤ 64 ∧ Fr w.heap.size A ∧ (∀ r ∈ rs, ∀ ad, r.A = some ad → w.heap.size ≤ ad.block) ∧ At0 A
set_option maxRecDepth 100000 in
set_option maxHeartbeats 8000000 in
theorem build_any (A : Option Addr) (m c n : Nat) (es : List (Int × Int)) (w : World) (h : RE w A m es) (hT : Tab w) (hm : m ≤ 4096) (hz : chkG n es = 0) (hn : n ≤ 64) :
    Calls Tryd.prog 53 #[.agg #[.int .i64 (n : Nat), .slice A m c]] w (RetBld w n es) := by
  have kst := Lib.hid (fun (gl B inn : Nat) (v : Value) (ls : List (Nat × Nat × Nat)) (rs : List Dn) (w : World) (h : RE w A m es) (hT : Tab w) => step_any gl n m c B inn A es v ls rs w h hT hm hz hn)
  have ka := Lib.hid (fun w => (all_any n hn w).mono (fun (e : Ending) (w' : World) (h : e = .returned (.int .u64 (allM n : Nat)) ∧ w = w') => (⟨h.1, h.2.symm⟩ : e = .returned (.int .u64 (allM n : Nat)) ∧ w' = w)))
  have G0 := (Blk.new w 25 #[.int .i64 (n : Nat), .slice A m c]).alloc (.cells #[.int .u64 0, .slice none 0 0] 128)
  have D0 : Blk ((w.alloc (.cells #[.int .i64 (n : Nat), .slice A m c] 25)).alloc (.cells #[.int .u64 0, .slice none 0 0] 128)) (w.heap.size + 1) 128 #[.int .u64 ((0 : Nat) : Int), .slice none 0 0] := Blk.new' _ _ _ (by simp)
  have B0 : Below w.heap.size w ((w.alloc (.cells #[.int .i64 (n : Nat), .slice A m c] 25)).alloc (.cells #[.int .u64 0, .slice none 0 0] 128)) := ((Below.refl _ w).alloc (Nat.le_refl _) _).alloc (by simp) _
  have E0 := (h.alloc (.cells #[.int .i64 (n : Nat), .slice A m c] 25)).alloc (.cells #[.int .u64 0, .slice none 0 0] 128)
  have T0 := hT.keep B0
  replace hz := Lib.hid hz
  replace h := Lib.hid h
  replace hT := Lib.hid hT
  clear E0 T0
  go_enter Tryd.func53, Tryd.ntmps53
  go_upto_region 2 with fail
  have hW : ((w.alloc (.cells #[.int .i64 (n : Nat), .slice A m c] 25)).alloc (.cells #[.int .u64 0, .slice none 0 0] 128)).heap.size = w.heap.size + 2 := by simp
  generalize (w.alloc (.cells #[.int .i64 (n : Nat), .slice A m c] 25)).alloc (.cells #[.int .u64 0, .slice none 0 0] 128) = W at *
  replace hW := Lib.hid hW
  obtain ⟨g0, g1⟩ := blkG G0
  go_upto_region 3 with fail
  clear g0 g1
  go_loopw [6] (fun i wr => ∃ (k inn : Nat) (v : Value) (ls : List (Nat × Nat × Nat)) (rs : List Dn), k ≤ n ∧ i = .int .i64 (k : Nat) ∧ Blk wr (w.heap.size + 1) 128 #[.int .u64 (inn : Nat), v] ∧ LvO wr W.heap.size v ls rs ∧ Same (fun q => q = w.heap.size + 1) W wr ∧ Hid (LvTo n es 0 ls inn ∧ Inn n inn ∧ k ≤ pop inn ∧ rs.length ≤ k)) (fun i _ => n - (intOf i).toNat)
  case atStart => exact ⟨0, 0, _, [], [], Nat.zero_le _, rfl, D0, LvO.nil_, Same.refl _ _, Lib.hid ⟨rfl, Inn.zero n, Nat.zero_le _, Nat.zero_le _⟩⟩
  case round =>
    obtain ⟨k, inn, v, ls, rs, hk, rfl, hL, hO, hs, hI⟩ := hrel
    have hbw : Below (w.heap.size + 1) W wr := hs.below (by have := hW.out; omega) (fun q hq e => by omega)
    have Br : Below w.heap.size w wr := B0.trans (hs.below (b := w.heap.size) (by have := hW.out; omega) (fun q hq e => by omega))
    have Gr : Blk wr w.heap.size 25 #[.int .i64 (n : Nat), .slice A m c] := G0.below hbw (Nat.lt_succ_self _)
    have Er := h.out.below Br (Nat.le_refl _)
    have Tr := hT.out.keep Br
    have hfin : Hid (inn = allM n → RetBld w n es (.returned v) wr) := Lib.hid (fun e => by
      obtain ⟨A', k', c', rfl, hk', hkc, -, hrs, hfr⟩ := hO.os.form
      refine ⟨A', k', c', ls, rs, rfl, hkc, LvTo.all (by rw [← e]; exact hI.out.1), ⟨hrs, hO.len, hO.el⟩, Br, ?_, fun ad e => by have := hfr ad e; have := hW.out; omega, fun r hr ad e => by have := (hO.fr r hr ad e).1; have := hW.out; omega, os_at0 hO.os⟩
      have := hI.out.2.2.2; omega)
    by_cases hlt : k < n
    · have i0 : (k : Int) < (n : Int) := by omega
      obtain ⟨d0, d1⟩ := blkG Gr
      have l0 := Blk.cell hL 0
      have l1 := Blk.cell hL 1
      simp at l0 l1
      have s0 : wr.drew.cell? ⟨w.heap.size + 1, 0, none⟩ = some (.int .u64 (inn : Nat)) := l0
      have s1 : wr.drew.cell? ⟨w.heap.size, 0, none⟩ = some (.int .i64 (n : Nat)) := d0
      have s2 : wr.drew.cell? ⟨w.heap.size, 1, none⟩ = some (.slice A m c) := d1
      have s3 : wr.drew.cell? ⟨w.heap.size + 1, 1, none⟩ = some v := l1
      by_cases he : inn = allM n
      · have hf := Lib.hid (hfin.out he)
        have q0 : ((inn : Int) == ((allM n : Nat) : Int)) = true := by rw [he]; exact beq_self_eq_true _
        have hfd : Hid (RetBld w n es (.returned v) wr.drew) := Lib.hid (by
          obtain ⟨A', k', c', ls, rs, e, hkc, h1, h2, h3, h4, h5, h6, h7⟩ := hf.out
          exact ⟨A', k', c', ls, rs, e, hkc, h1, h2.below (Below.refl _ wr).drew, h3.drew, h4, h5, h6, h7⟩)
        clear hfin hf he hI hO hs Er Tr
        generalize allM n = M at *
        go_upto_region 4 with fail
        go_loud (go_region_held3 (fun w' => w'.cell? ⟨w.heap.size + 1, 0, none⟩ = some (.int .u64 (inn : Nat)) ∧ w'.cell? ⟨w.heap.size, 0, none⟩ = some (.int .i64 (n : Nat)))
          ((first | (with_reducible exact ⟨s0, s1⟩) | fail))
          ((first
            | (go_at_call 94; (with_reducible refine (ka.out _).mono ?_); rintro e wq ⟨rfl, hq⟩; obtain rfl := hq.symm)
            | fail)))
        all_goals go_wp2_with fail
        all_goals go_ret
        all_goals exact hfd.out
      · have q0 : ((inn : Int) == ((allM n : Nat) : Int)) = false := by rw [beq_eq_false_iff_ne]; intro e; exact he (by omega)
        have hp := hI.out.2.1.off_pos hn he
        have hi64 := hI.out.2.1.lt64 hn
        have hll : rs.length ≤ 64 := by have := hI.out.2.2.2; omega
        have kk := Lib.hid (kst.out (w.heap.size + 1) W.heap.size inn v ls rs wr.drew Er Tr hi64 hp hL.drew (hO.below (Below.refl _ wr).drew) (by have := hW.out; omega) hs.size hll)
        have hvo : Hid (∀ q, v.ownBlock = some q → W.heap.size ≤ q) := Lib.hid (fun q e => (hO.os.block_lt q e).1)
        have hne := Lib.hid he
        clear hfin he hO Er Tr hp hi64 hll
        generalize hM : allM n = M at q0 ka
        clear hM
        go_upto_region 4 with fail
        go_loud (go_region_held3 (fun w' => w'.cell? ⟨w.heap.size + 1, 0, none⟩ = some (.int .u64 (inn : Nat)) ∧ w'.cell? ⟨w.heap.size, 0, none⟩ = some (.int .i64 (n : Nat)))
          ((first | (with_reducible exact ⟨s0, s1⟩) | fail))
          ((first
            | (go_at_call 94; (with_reducible refine (ka.out _).mono ?_); rintro e wq ⟨rfl, hq⟩; obtain rfl := hq.symm)
            | fail)))
        all_goals go_wp2_with (first | (go_at_call 95; (with_reducible refine kk.out.mono ?_); intro e w4 hq; obtain ⟨rfl, x, P, D, v', r, hDen, hL4, hO4, hS4⟩ := hq) | fail)
        all_goals
          have hLv := Lvl.of_den hDen
          have hpp := pop_disj (i := inn) (x := x) (fun v hv => (hLv.off v hv).2)
          go_roundw
        case rel => exact ⟨k + 1, inn ||| x, v', ls ++ [(x, P, D)], rs ++ [r], by omega, by go_num, hL4, hO4, hs.drew.trans hS4 (fun q hq e => by
          rcases e with e | e
          · exact e
          · have := hvo.out q e; omega), Lib.hid ⟨hI.out.1.snoc hne.out hLv, hI.out.2.1.or hLv, by have := hLv.pos; have := hI.out.2.2.1; omega, by rw [List.length_append]; have := hI.out.2.2.2; simp; omega⟩⟩
        case measure => simp [intOf]; omega
    · obtain rfl : k = n := by omega
      have i0 : ¬ (k : Int) < (k : Int) := by omega
      have hf := Lib.hid (hfin.out (hI.out.2.1.full hn hI.out.2.2.1))
      have l1 := Blk.cell hL 1
      simp at l1
      clear hfin hI hO hs Er Tr
      go_wp2_with fail
      go_ret
      exact hf.out
end Go.Proofs.YticekkjambkifaaDoor.Fl
