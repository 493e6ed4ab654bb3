/- Package peel: few, walked. -/
import Derived.Test.YtdibfecejgjfmaaDoorPeeI
import Derived.Test.YtdibfecejgjfmaaDoorRCoB
import Derived.Test.YtdibfecejgjfmaaDoorRatS
set_option linter.unusedVariables false
set_option linter.unusedSimpArgs false
namespace Go.Proofs.YtdibfecejgjfmaaDoor
open Go.RowKit CoBit CoRat Rt

/-- Has a node few neighbours in a set? -/
def fewP (n : Nat) (es : List (Int × Int)) (x a d : Nat) (v : Nat) : Bool := decide (pop ((rowsL n es).getD v 0 &&& x) * pop x * d ≤ 2 * (d + a) * insE es (bset x))
def fewS (p : Nat → Bool) (y v : Nat) : Nat := if p v then y ||| bitN v else y
/-- The set of the nodes with few neighbours. -/
def fewM (n : Nat) (es : List (Int × Int)) (x a d : Nat) : Nat := (bl x).foldl (fewS (fewP n es x a d)) 0
theorem fewS_lt {p : Nat → Bool} {y v : Nat} (hy : y < 18446744073709551616) (hv : v < 64) : fewS p y v < 18446744073709551616 := by
  unfold fewS
  split
  · have h2 := two_pow_lt hv
    have := Nat.or_lt_two_pow (x := y) (y := bitN v) (n := 64) (by rw [show (2 : Nat) ^ 64 = 18446744073709551616 by decide +kernel]; exact hy) (by rw [show (2 : Nat) ^ 64 = 18446744073709551616 by decide +kernel]; exact h2)
    rw [show (2 : Nat) ^ 64 = 18446744073709551616 by decide +kernel] at this
    exact this
  · exact hy
theorem fewF_lt {p : Nat → Bool} : ∀ (l : List Nat) (y : Nat), y < 18446744073709551616 → (∀ v ∈ l, v < 64) → l.foldl (fewS p) y < 18446744073709551616
  | [], y, h, _ => h
  | v :: l, y, h, hl => fewF_lt l _ (fewS_lt h (hl v (by simp))) fun u hu => hl u (by simp [hu])
theorem fewF_bit {p : Nat → Bool} (i : Nat) : ∀ (l : List Nat) (y : Nat), (l.foldl (fewS p) y).testBit i = true ↔ y.testBit i = true ∨ (i ∈ l ∧ p i = true)
  | [], y => by simp
  | v :: l, y => by
    rw [List.foldl_cons, fewF_bit i l, List.mem_cons]
    unfold fewS
    by_cases hp : p v = true
    · rw [if_pos hp, Nat.testBit_or, Bool.or_eq_true]
      have hb : (bitN v).testBit i = true ↔ i = v := by
        unfold bitN
        rw [Nat.testBit_two_pow]
        simp [eq_comm]
      rw [hb]
      constructor
      · rintro ((h | h) | h)
        · exact .inl h
        · subst h; exact .inr ⟨.inl rfl, hp⟩
        · exact .inr ⟨.inr h.1, h.2⟩
      · rintro (h | ⟨h | h, h2⟩)
        · exact .inl (.inl h)
        · exact .inl (.inr h)
        · exact .inr ⟨h, h2⟩
    · rw [if_neg hp]
      constructor
      · rintro (h | h)
        · exact .inl h
        · exact .inr ⟨.inr h.1, h.2⟩
      · rintro (h | ⟨h | h, h2⟩)
        · exact .inl h
        · subst h; exact absurd h2 hp
        · exact .inr ⟨h, h2⟩
theorem fewM_lt (n : Nat) (es : List (Int × Int)) (x a d : Nat) : fewM n es x a d < 18446744073709551616 := fewF_lt _ _ (by omega) fun v hv => (mem_bl.1 hv).1
theorem fewM_bit (n : Nat) (es : List (Int × Int)) (x a d i : Nat) : (fewM n es x a d).testBit i = true ↔ (i < 64 ∧ x.testBit i = true) ∧ fewP n es x a d i = true := by
  unfold fewM
  rw [fewF_bit, mem_bl]; simp
theorem few_take {p : Nat → Bool} {l : List Nat} {k v : Nat} (h : l[k]? = some v) : (l.take (k + 1)).foldl (fewS p) 0 = fewS p ((l.take k).foldl (fewS p) 0) v := by
  obtain ⟨hk, rfl⟩ := List.getElem?_eq_some_iff.1 h
  rw [List.take_succ_eq_append_getElem hk, List.foldl_append]; rfl
theorem nts_get {l : List Nat} {k : Nat} {y : Int} (h : (nts l)[k]? = some y) : ∃ u : Nat, y = (u : Int) ∧ l[k]? = some u := by
  unfold nts at h
  rw [List.getElem?_map] at h
  cases hl : l[k]? with
  | none => rw [hl] at h; cases h
  | some u => rw [hl] at h; injection h with h; exact ⟨u, h.symm, rfl⟩

set_option maxRecDepth 100000 in
set_option maxHeartbeats 4000000 in
theorem few_any' (gr n : Nat) (es : List (Int × Int)) (x a d : Nat) (w : World) (hT : Tab w) (hA : AU w gr (rowsL n es)) (hc : chkG n es = 0) (hn : n ≤ 64) (hx : x < 18446744073709551616) (hxn : ∀ i, x.testBit i = true → i < n) (ha : a ≤ 1048576) (hd : d ≤ 1048576) (hes : es.length ≤ 68719476736) :
    Calls Tryd.prog 50 #[.slice (some ⟨gr, 0, none⟩) n n, .int .u64 x, .agg #[.int .i64 a, .int .i64 d]] w fun e w' => e = .returned (.int .u64 (fewM n es x a d : Nat)) ∧ Below w.heap.size w w' := by
  have hI : insE es (bset x) ≤ 4096 := by
    have h1 := insE_le es (bset x)
    have h2 := srt_len (srt_of_chk hc)
    have h3 : n * n ≤ 64 * 64 := Nat.mul_le_mul hn hn
    omega
  have hrl := Lib.hid (rowsL_length n es)
  have hr64 := Lib.hid (rows_lt es hn)
  have hpx : pop x ≤ 64 := by rw [pop_bl]; exact bl_length _
  have kin := fun w hT hA => inside_any gr n es x w hT hA hc hn hx hxn
  have hP : ∀ v, fewP n es x a d v = decide (pop ((rowsL n es).getD v 0 &&& x) * pop x * d ≤ 2 * (d + a) * insE es (bset x)) := fun v => rfl
  obtain ⟨M, hM⟩ : ∃ M, M = 2 * (d + a) * insE es (bset x) := ⟨_, rfl⟩
  have hMb : M ≤ 17179869184 := by
    rw [hM]
    have := Nat.mul_le_mul (show 2 * (d + a) ≤ 4194304 by omega) hI
    omega
  rw [← hM] at hP
  generalize insE es (bset x) = I at *
  have m1 : IntKind.i64.wrap ((d : Int) + (a : Int)) = ((d + a : Nat) : Int) := by rw [← Int.natCast_add]; exact IntWalk.i64_in _ ⟨by omega, by omega⟩
  have m2 : IntKind.i64.wrap (2 * ((d + a : Nat) : Int)) = ((2 * (d + a) : Nat) : Int) := by rw [Int.natCast_mul]; exact IntWalk.i64_in _ ⟨by omega, by omega⟩
  have m3 : IntKind.i64.wrap (((2 * (d + a) : Nat) : Int) * (I : Int)) = (M : Int) := by rw [hM, ← Int.natCast_mul]; exact IntWalk.i64_in _ ⟨by omega, by omega⟩
  replace hM := Lib.hid hM
  replace hP := Lib.hid hP
  replace kin := Lib.hid kin
  generalize 2 * (d + a) = d2 at *
  generalize d + a = d1 at *
  have hnb := Blk.new w 31 #[.int .i64 a, .int .i64 d]
  have hA1 := hA.alloc (.cells #[.int .i64 a, .int .i64 d] 31)
  have hT1 := hT.alloc (.cells #[.int .i64 a, .int .i64 d] 31)
  have hb1 := (Below.refl w.heap.size w).alloc (Nat.le_refl _) (.cells #[.int .i64 a, .int .i64 d] 31)
  have hs1 : w.heap.size < (w.alloc (.cells #[.int .i64 a, .int .i64 d] 31)).heap.size := by simp
  go_enter Tryd.func50, Tryd.ntmps50
  go_upto_region 1 with fail
  generalize w.alloc (.cells #[.int .i64 a, .int .i64 d] 31) = w1 at *
  have x0 := Blk.cell hnb 0
  have x1 := Blk.cell hnb 1
  simp at x0 x1
  have BN : Below w1.heap.size w1 w1 := Below.refl _ _
  have BNd : Below w1.heap.size w1 w1 := Below.refl _ _
  go_region_held3 (fun w' => w'.cell? ⟨w.heap.size, 0, none⟩ = some (.int .i64 a) ∧ w'.cell? ⟨w.heap.size, 1, none⟩ = some (.int .i64 d))
    ((exact ⟨(BN.cell (p := ⟨w.heap.size, 0, none⟩) hs1).trans x0, (BN.cell (p := ⟨w.heap.size, 1, none⟩) hs1).trans x1⟩))
    ((go_at_call 76; (with_reducible refine (kin.out _ (Tab.drw' hT1) (AU.drew hA1)).mono ?_); rintro e w2 ⟨rfl, hb2⟩; replace BN : Below w1.heap.size w1 w2 := below_call BN.drew hb2))
  have hA2 := hA1.below BN hA1.lt
  have hT2 := hT1.keep BN
  have hn2 := hnb.below BN hs1
  have hb02 := hb1.trans (BN.mono hb1.size)
  clear BN BNd hb2 hA1 hT1 hnb hb1 x0 x1
  go_wp2_with fail
  refine (list_any x hx _ hT2).mono ?_
  rintro e w3 ⟨A3, n3, c3, rfl, hc3, hr3, hb3, hf3⟩
  have hA3 := hA2.below hb3 hA2.lt
  have hn3 := hn2.below hb3 hn2.lt
  have hb03 := hb02.trans (hb3.mono hb02.size)
  have hl3 := Lib.hid hr3.len
  have hn64 : n3 ≤ 64 := by have := bl_length x; have := hl3.out; rw [nts_length] at this; omega
  clear hA2 hT2 hn2 hb02 hb3 hf3
  go_wp2_with fail
  go_loopw [8, 24] (fun f i wr => ∃ k : Nat, k ≤ n3 ∧ i = .int .i64 k ∧ f = .int .u64 (((bl x).take k).foldl (fewS (fewP n es x a d)) 0 : Nat) ∧ Below w3.heap.size w3 wr) (fun _ i _ => n3 - (intOf i).toNat)
  case atStart => exact ⟨0, Nat.zero_le _, rfl, rfl, Below.refl _ _⟩
  case round =>
    obtain ⟨k, hk, rfl, rfl, hb⟩ := hrel
    by_cases hlt : k < n3
    · obtain ⟨adr, v, rfl, hv, hcv⟩ := (RI.below hr3 hb (Nat.le_refl _)).get hlt
      obtain ⟨u, rfl, hu⟩ := nts_get hv.out
      have hum := List.mem_of_getElem? hu
      have hun : u < n := hxn u (mem_bl.1 hum).2
      have hst := few_take (p := fewP n es x a d) hu
      have hylt : ((bl x).take k).foldl (fewS (fewP n es x a d)) 0 < 18446744073709551616 := fewF_lt _ _ (by omega) fun v hv => (mem_bl.1 (List.mem_of_mem_take hv)).1
      have hAr := hA3.below hb hA3.lt
      have hnr := hn3.below hb hn3.lt
      have hcu := hAr.cell (i := u) (by rw [hrl.out]; exact hun)
      have x0 := Blk.cell hnr 0
      have x1 := Blk.cell hnr 1
      simp at x0 x1
      have hPu := hP.out u
      have hrow := getD_lt hr64.out u
      generalize (rowsL n es).getD u 0 = row at *
      have hand := u64_and_nat row x hrow hx
      have hlt2 : row &&& x < 18446744073709551616 := and_lt hx
      have hpop : pop (row &&& x) ≤ 64 := by rw [pop_bl]; exact bl_length _
      have kc1 := Lib.hid fun w => (count_any (row &&& x) hlt2 w).mono (fun e w' h => (⟨h.1, h.2.symm⟩ : e = .returned (.int .i64 (pop (row &&& x) : Nat)) ∧ w' = w))
      have kc2 := Lib.hid fun w => (count_any x hx w).mono (fun e w' h => (⟨h.1, h.2.symm⟩ : e = .returned (.int .i64 (pop x : Nat)) ∧ w' = w))
      have t1 := Nat.mul_le_mul hpop hpx
      have m4 : IntKind.i64.wrap ((pop (row &&& x) : Int) * (pop x : Int)) = ((pop (row &&& x) * pop x : Nat) : Int) := by rw [← Int.natCast_mul]; exact IntWalk.i64_in _ ⟨by omega, by omega⟩
      generalize pop (row &&& x) * pop x = T1 at *
      have t2 := Nat.mul_le_mul t1 hd
      have m5 : IntKind.i64.wrap ((T1 : Int) * (d : Int)) = ((T1 * d : Nat) : Int) := by rw [← Int.natCast_mul]; exact IntWalk.i64_in _ ⟨by omega, by omega⟩
      generalize T1 * d = T2 at *
      generalize pop (row &&& x) = p1 at *
      generalize pop x = p2 at *
      generalize ((bl x).take k).foldl (fewS (fewP n es x a d)) 0 = y at *
      have hu64 : u < 64 := by omega
      have hor := u64_or_nat y (bitN u) hylt (two_pow_lt hu64)
      have i0 : (0 : Int) ≤ (u : Int) := Int.natCast_nonneg _
      have i1 : (u : Int) < (n : Int) := by omega
      have i2 : (0 : Int) ≤ (k : Int) := Int.natCast_nonneg _
      have i3 : (k : Int) < (n3 : Int) := by omega
      clear hv hu hum hand t1 t2
      have hand := u64_and_nat row x hrow hx
      by_cases hq : T2 ≤ M
      · have hstv : fewS (fewP n es x a d) y u = y ||| bitN u := by unfold fewS; rw [hPu, decide_eq_true hq]; rfl
        rw [hstv] at hst
        replace hst := Lib.hid hst
        clear hPu hstv
        go_wp2_with fail
        go_quiet ((first | (go_at_call 77; exact Calls.quiet_of_same (kc1.out _)) | (go_at_call 77; exact Calls.quiet_of_same (kc2.out _))))
        go_wp2_with fail
        refine (bit_any u hu64 _).mono ?_
        rintro e w5 ⟨rfl, rfl⟩
        go_wp2_with fail
        go_roundw
        case rel => exact ⟨k + 1, by omega, by go_num, by rw [hst.out], by first | exact below_drewN hb _ | exact hb⟩
        case measure => simp [intOf]; omega
      · have hstv : fewS (fewP n es x a d) y u = y := by unfold fewS; rw [hPu, decide_eq_false hq]; rfl
        rw [hstv] at hst
        replace hst := Lib.hid hst
        clear hPu hstv
        go_wp2_with fail
        go_quiet ((first | (go_at_call 77; exact Calls.quiet_of_same (kc1.out _)) | (go_at_call 77; exact Calls.quiet_of_same (kc2.out _))))
        go_wp2_with fail
        go_roundw
        case rel => exact ⟨k + 1, by omega, by go_num, by rw [hst.out], by first | exact below_drewN hb _ | exact hb⟩
        case measure => simp [intOf]; omega
    · obtain rfl : k = n3 := by omega
      have hfin : ((bl x).take k).foldl (fewS (fewP n es x a d)) 0 = fewM n es x a d := by
        unfold fewM
        rw [List.take_of_length_le (by have := hl3.out; rw [nts_length] at this; omega)]
      rw [hfin]
      have hbz := hb03.trans (hb.mono hb03.size)
      clear hfin
      go_wp2_with fail
      go_ret
      exact ⟨rfl, hbz⟩
end Go.Proofs.YtdibfecejgjfmaaDoor

namespace Go.Proofs.YtdibfecejgjfmaaDoor
open Go.RowKit

theorem slice_info' : (Tryd.prog.info? 22).map (fun i => (i.zero, i.size, i.bytes)) = some (some (.slice none 0 0), 1, 24) := by kernel_rfl
theorem RI.kept0 {w w' : World} {n : Nat} {A : Option Addr} {xs : List Int} {row : Option Nat} (h : RI w A n xs) (hg : w.grownBy w' row) (hne : ∀ ad, A = some ad → 0 < n → some ad.block ≠ row) : RI w' A n xs :=
  ⟨h.1, fun hn => by
    obtain ⟨ad, e, hb, hc⟩ := (show Reads w w.heap.size 1 A n (ints xs) from h).2 hn
    exact ⟨ad, e, Nat.lt_of_lt_of_le hb hg.size, fun j u hu => (World.cell?_of_block (hg.block (ad.add j).block (by rw [block_of_add]; exact hb) (by rw [block_of_add]; exact hne ad e hn))).trans (hc j u hu)⟩⟩
/-- A row of a list of lists: a slice that reads as ys, in a block from B on, other than two given ones. -/
def RowV (w : World) (B : Nat) (own q : Option Nat) (u : Value) (ys : List Int) : Prop := ∃ A k c, u = .slice A k c ∧ k ≤ c ∧ RI w A k ys ∧ ∀ ad, A = some ad → 0 < k → some ad.block ≠ own ∧ some ad.block ≠ q ∧ B ≤ ad.block ∧ ad.block < w.heap.size
section
variable {w w' : World} {B b : Nat} {own q q' : Option Nat} {u v : Value} {ys : List Int} {L : List (List Int)}
theorem RowV.below (h : RowV w B own q u ys) (hb : Below b w w') (hB : w.heap.size ≤ b) : RowV w' B own q u ys := by
  obtain ⟨A, k, c, h1, h2, h3, h4⟩ := h
  exact ⟨A, k, c, h1, h2, h3.below hb hB, fun ad e hk => ⟨(h4 ad e hk).1, (h4 ad e hk).2.1, (h4 ad e hk).2.2.1, Nat.lt_of_lt_of_le (h4 ad e hk).2.2.2 hb.size⟩⟩
theorem RowV.grown {row : Option Nat} (h : RowV w B own q u ys) (hg : w.grownBy w' row) (hr : ∀ k, row = some k → k < B ∨ some k = own ∨ some k = q) : RowV w' B own q u ys := by
  obtain ⟨A, k, c, h1, h2, h3, h4⟩ := h
  refine ⟨A, k, c, h1, h2, h3.kept0 hg (fun ad e hk he => ?_), fun ad e hk => ⟨(h4 ad e hk).1, (h4 ad e hk).2.1, (h4 ad e hk).2.2.1, Nat.lt_of_lt_of_le (h4 ad e hk).2.2.2 hg.size⟩⟩
  rcases hr _ he.symm with h | h | h
  · have := (h4 ad e hk).2.2.1; omega
  · exact (h4 ad e hk).1 h
  · exact (h4 ad e hk).2.1 h
theorem RowV.turn {own' : Option Nat} (h : RowV w B own q u ys) (ho : own' = own ∨ ∃ k, own' = some k ∧ w.heap.size ≤ k) (hq : q' = q ∨ ∃ k, q' = some k ∧ w.heap.size ≤ k) : RowV w B own' q' u ys := by
  obtain ⟨A, k, c, h1, h2, h3, h4⟩ := h
  refine ⟨A, k, c, h1, h2, h3, fun ad e hk => ⟨?_, ?_, (h4 ad e hk).2.2⟩⟩
  · rcases ho with ho | ⟨j, ho, hj⟩
    · rw [ho]; exact (h4 ad e hk).1
    · rw [ho]; intro he; injection he with he; have := (h4 ad e hk).2.2.2; omega
  · rcases hq with hq | ⟨j, hq, hj⟩
    · rw [hq]; exact (h4 ad e hk).2.1
    · rw [hq]; intro he; injection he with he; have := (h4 ad e hk).2.2.2; omega
/-- The slice v is the call's own and holds the lists L, none of which lies in block q. -/
def OLL (w : World) (B : Nat) (v : Value) (q : Option Nat) (L : List (List Int)) : Prop := ∃ vs : List Value, w.ownsRow B 22 1 v L.length vs ∧ vs.length = L.length ∧ ∀ (i : Nat) (u : Value) (ys : List Int), vs[i]? = some u → L[i]? = some ys → RowV w B v.ownBlock q u ys
theorem OLL.nil_ : OLL w B (.slice none 0 0) q [] := ⟨[], World.ownsRow_nil _ _ _ _, rfl, fun i u ys h => by simp at h⟩
theorem OLL.lt (h : OLL w B v q L) : ∀ k, v.ownBlock = some k → B ≤ k ∧ k < w.heap.size := by obtain ⟨vs, h1, _⟩ := h; exact h1.lt
theorem OLL.below (h : OLL w B v q L) (hb : Below b w w') (hB : w.heap.size ≤ b) : OLL w' B v q L := by
  obtain ⟨vs, h1, h2, h3⟩ := h
  refine ⟨vs, ?_, h2, fun i u ys hu hy => (h3 i u ys hu hy).below hb hB⟩
  exact World.ownsRow.kept h1 (⟨hb.os, hb.tape, hb.output, hb.size, fun k hk _ => hb.block k (by omega)⟩ : w.grownBy w' none) (by cases v.ownBlock <;> simp)
theorem OLL.grown {g : Nat} (h : OLL w B v q L) (hg : w.grownBy w' (some g)) (hgB : g < B) : OLL w' B v q L := by
  obtain ⟨vs, h1, h2, h3⟩ := h
  refine ⟨vs, ?_, h2, fun i u ys hu hy => (h3 i u ys hu hy).grown hg (fun k hk => .inl (by injection hk with hk; omega))⟩
  refine World.ownsRow.kept h1 hg ?_
  cases hv : v.ownBlock with
  | none => exact .inl rfl
  | some k => exact .inr (fun e => by injection e with e; have := (h1.lt k hv).1; omega)
theorem OLL.step (h : OLL w B v q L) (hg : w.grownBy w' q) (hne : v.ownBlock = none ∨ v.ownBlock ≠ q) (hq : q' = q ∨ ∃ k, q' = some k ∧ w.heap.size ≤ k) : OLL w' B v q' L := by
  obtain ⟨vs, h1, h2, h3⟩ := h
  refine ⟨vs, World.ownsRow.kept h1 hg hne, h2, fun i u ys hu hy => ?_⟩
  have h4 := (h3 i u ys hu hy).turn (.inl rfl) hq
  obtain ⟨A, k, c, e1, e2, e3, e4⟩ := h3 i u ys hu hy
  obtain ⟨A', k', c', f1, f2, f3, f4⟩ := h4
  rw [e1] at f1
  injection f1 with f1 f1' f1''
  subst f1; subst f1'; subst f1''
  exact ⟨A, k, c, e1, e2, e3.kept0 hg (fun ad e hk => (e4 ad e hk).2.1), fun ad e hk => ⟨(f4 ad e hk).1, (f4 ad e hk).2.1, (f4 ad e hk).2.2.1, Nat.lt_of_lt_of_le (f4 ad e hk).2.2.2 hg.size⟩⟩
theorem OLL.drewN (h : OLL w B v q L) (n : Nat) : OLL (w.drewN n) B v q L := h
theorem OLL.alloc (h : OLL w B v q L) (o : Obj) : OLL (w.alloc o) B v q L := h.below ((Below.refl _ _).alloc (Nat.le_refl _) o) (Nat.le_refl _)
end
set_option maxRecDepth 100000 in
/-- append of one list. -/
theorem wpList_pushL {ops : Array Oper} {rest : List Oper} {o : Oper} {a : Act} {Q : Exit → Act → World → Prop} {w : World} {T B H : Nat} {v : Value} {q : Option Nat} {L : List (List Int)} {A : Option Addr} {k c : Nat} {ys : List Int}
    (hgd : o.guard = none) (s x : Operand) (ho : o.op = .call { callee := .builtin .append, args := #[s, x], argTypes := #[50, 50] })
    (hs : a.eval s = v) (hx : a.eval x = .slice (some ⟨H, 0, none⟩) 1 1) (hH : H = w.heap.size) (hown : OLL w B v q L) (hn : L.length ≤ 1099511627776) (hB : B ≤ w.heap.size)
    (hk : k ≤ c) (hr : RI w A k ys) (hA : ∀ ad, A = some ad → 0 < k → some ad.block ≠ v.ownBlock ∧ some ad.block ≠ q ∧ B ≤ ad.block ∧ ad.block < w.heap.size)
    (h : ∀ v' w', OLL w' B v' q (L ++ [ys]) → Below B w w' → w.grownBy w' v.ownBlock → (v'.ownBlock = v.ownBlock ∨ ∃ k, v'.ownBlock = some k ∧ w.heap.size ≤ k) → wpList Tryd.prog ops Q rest (a.put o.dst v') w') :
    wpList Tryd.prog ops Q (o :: rest) a (w.alloc (.cells #[.slice A k c] T)) := by
  obtain ⟨i0, hi0, hz0, hz1, hz2⟩ := info_parts slice_info'
  subst hH
  obtain ⟨vs, h1, h2, h3⟩ := hown
  have hrd : Reads (w.alloc (.cells #[.slice A k c] T)) (w.alloc (.cells #[.slice A k c] T)).heap.size 1 (some ⟨w.heap.size, 0, none⟩) 1 [.slice A k c] := by
    refine ⟨rfl, fun _ => ⟨_, rfl, by simp, fun j u hu => ?_⟩⟩
    cases j with
    | zero => injection hu with hu; subst hu; exact Blk.cell (Blk.new w T #[.slice A k c]) 0
    | succ j => simp at hu
  refine wpList_append_any _ hgd s x _ ho B 22 i0 _ 1 24 Tryd.underlying50 hi0 hz0 hz1 hz2 rfl (by omega) v L.length vs hs (World.ownsRow.alloc h1 _) _ _ 1 1 [.slice A k c] hx hrd (by intro u hu; rw [List.mem_singleton] at hu; subst hu; rfl) (by unfold maxLen; omega) (by omega) (by simp; omega) ?_
  intro v' w' h4 h5 h6
  have hbw : Below B w w' := below_own ((Below.refl _ _).alloc hB _) h5 (by simp; omega) (fun k hk => (h1.lt k hk).1)
  have hgw : w.grownBy w' v.ownBlock := ⟨h5.os, h5.tape, h5.output, Nat.le_trans (by simp) h5.size, fun k hk hne => (h5.block k (by simp; omega) hne).trans (Below.heap_alloc w _ k hk)⟩
  have h7 : v'.ownBlock = v.ownBlock ∨ ∃ k, v'.ownBlock = some k ∧ w.heap.size ≤ k := by
    rcases h6 with h6 | h6
    · exact .inl h6
    · exact .inr ⟨_, h6, by simp⟩
  refine h v' w' ⟨vs ++ [.slice A k c], by rw [List.length_append]; exact h4, by simp [h2], ?_⟩ hbw hgw h7
  intro i u zs hu hz
  have hrow : RowV w B v.ownBlock q u zs := by
    rcases Nat.lt_or_ge i L.length with hi | hi
    · rw [List.getElem?_append_left (by omega)] at hu hz
      exact h3 i u zs hu hz
    · rw [List.getElem?_append_right (by omega)] at hu hz
      rw [h2] at hu
      cases hd : i - L.length with
      | zero =>
        rw [hd] at hu hz
        injection hu with hu; injection hz with hz
        subst hu; subst hz
        exact ⟨A, k, c, rfl, hk, hr, hA⟩
      | succ j => rw [hd] at hu; simp at hu
  have h8 := hrow.turn h7 (.inl rfl)
  obtain ⟨A', k', c', e1, e2, e3, e4⟩ := hrow
  obtain ⟨A2, k2, c2, f1, f2, f3, f4⟩ := h8
  rw [e1] at f1
  injection f1 with f1 f1' f1''
  subst f1; subst f1'; subst f1''
  exact ⟨A', k', c', e1, e2, e3.kept0 hgw (fun ad e hk => (e4 ad e hk).1), fun ad e hk => ⟨(f4 ad e hk).1, (f4 ad e hk).2.1, (f4 ad e hk).2.2.1, Nat.lt_of_lt_of_le (f4 ad e hk).2.2.2 hgw.size⟩⟩
/-- append of a list, with its block. -/
theorem wpList_catb {ops : Array Oper} {rest : List Oper} {o : Oper} {a : Act} {Q : Exit → Act → World → Prop} {w : World} {B : Nat} {v : Value} {ys zs : List Int} {A : Option Addr} {m c : Nat}
    (hgd : o.guard = none) (s x : Operand) (ho : o.op = .call { callee := .builtin .append, args := #[s, x], argTypes := #[22, 22] })
    (hs : a.eval s = v) (hx : a.eval x = .slice A m c) (hown : OI w B v ys) (hr : RI w A m zs) (hn : ys.length + m ≤ 2199023255552) (hB : B ≤ w.heap.size)
    (h : ∀ v' w', OI w' B v' (ys ++ zs) → Below B w w' → w.grownBy w' v.ownBlock → (v'.ownBlock = v.ownBlock ∨ ∃ k, v'.ownBlock = some k ∧ w.heap.size ≤ k) → wpList Tryd.prog ops Q rest (a.put o.dst v') w') :
    wpList Tryd.prog ops Q (o :: rest) a w := by
  obtain ⟨i0, hi0, hz0, hz1, hz2⟩ := info_parts int_info
  refine wpList_append_any _ hgd s x _ ho B 3 i0 _ 1 8 Tryd.underlying22 hi0 hz0 hz1 hz2 rfl (by omega) v ys.length (ints ys) hs hown _ _ m c (ints zs) hx hr (ints_one _) (by unfold maxLen; omega) (by omega) hB ?_
  intro v' w' h1 h2 h3
  refine h v' w' ?_ (below_own (Below.refl _ _) h2 hB (own_block hown)) h2 ?_
  · unfold OI
    rw [List.length_append, ints_append, hr.len]; exact h1
  · rcases h3 with h3 | h3
    · exact .inl h3
    · exact .inr ⟨_, h3, Nat.le_refl _⟩
/-- The slice reads as the lists L. -/
def RLL (w : World) (A : Option Addr) (n : Nat) (L : List (List Int)) : Prop := ∃ vs : List Value, Reads w w.heap.size 1 A n vs ∧ L.length = n ∧ ∀ (i : Nat) (u : Value) (ys : List Int), vs[i]? = some u → L[i]? = some ys → ∃ A k c, u = .slice A k c ∧ k ≤ c ∧ RI w A k ys
theorem RLL.below {w w' : World} {b : Nat} {A : Option Addr} {n : Nat} {L : List (List Int)} (h : RLL w A n L) (hb : Below b w w') (hB : w.heap.size ≤ b) : RLL w' A n L := by
  obtain ⟨vs, h1, h2, h3⟩ := h
  refine ⟨vs, (Reads.below h1 hb hB).more hb.size, h2, fun i u ys hu hy => ?_⟩
  obtain ⟨A, k, c, e1, e2, e3⟩ := h3 i u ys hu hy
  exact ⟨A, k, c, e1, e2, e3.below hb hB⟩
theorem RLL.len {w : World} {A : Option Addr} {n : Nat} {L : List (List Int)} (h : RLL w A n L) : L.length = n := by obtain ⟨vs, h1, h2, _⟩ := h; exact h2
theorem RLL.get {w : World} {A : Option Addr} {n : Nat} {L : List (List Int)} (h : RLL w A n L) {i : Nat} (hi : i < n) : ∃ ad A' k c ys, A = some ad ∧ w.cell? (ad.add i) = some (.slice A' k c) ∧ Hid (L[i]? = some ys) ∧ k ≤ c ∧ RI w A' k ys := by
  obtain ⟨vs, h1, h2, h3⟩ := h
  obtain ⟨ad, u, e, hlt, hu, hc⟩ := Reads.at_ h1 hi
  have hy : L[i]? = some (L[i]'(by omega)) := List.getElem?_eq_getElem (by omega)
  obtain ⟨A', k, c, rfl, e2, e3⟩ := h3 i u _ hu hy
  exact ⟨ad, A', k, c, _, e, hc, Lib.hid hy, e2, e3⟩
theorem OLL.read {w : World} {B : Nat} {v : Value} {q : Option Nat} {L : List (List Int)} (h : OLL w B v q L) : ∃ A c, v = .slice A L.length c ∧ L.length ≤ c ∧ RLL w A L.length L ∧ Fr B A := by
  obtain ⟨vs, h1, h2, h3⟩ := h
  obtain ⟨A, c, rfl, h4, h5⟩ := own_form h1
  refine ⟨A, c, rfl, h4, ⟨vs, Reads.of_own h1, rfl, fun i u ys hu hy => ?_⟩, own_fresh h1⟩
  obtain ⟨A', k, c', e1, e2, e3, _⟩ := h3 i u ys hu hy
  exact ⟨A', k, c', e1, e2, e3⟩
end Go.Proofs.YtdibfecejgjfmaaDoor

namespace Go.Proofs.YtdibfecejgjfmaaDoor
open Go.RowKit CoBit CoRat Rt

/-- A set without another. -/
def mns (x m : Nat) : Nat := x &&& (18446744073709551615 - m)
theorem mns_lt {x m : Nat} (h : x < 18446744073709551616) : mns x m < 18446744073709551616 := and_lt' h
theorem mns_bit {x m : Nat} (hx : x < 18446744073709551616) (hm : m < 18446744073709551616) (i : Nat) : (mns x m).testBit i = (x.testBit i && !m.testBit i) := by
  unfold mns
  rw [Nat.testBit_and]
  by_cases hi : i < 64
  · rw [show (18446744073709551615 - m : Nat) = 2 ^ 64 - (m + 1) by rw [show (2 : Nat) ^ 64 = 18446744073709551616 by decide +kernel]; omega, Nat.testBit_two_pow_sub_succ (by rw [show (2 : Nat) ^ 64 = 18446744073709551616 by decide +kernel]; exact hm)]
    simp [hi]
  · have h1 : x.testBit i = false := by
      refine Nat.testBit_lt_two_pow (Nat.lt_of_lt_of_le hx ?_)
      rw [show (18446744073709551616 : Nat) = 2 ^ 64 by decide +kernel]
      exact Nat.pow_le_pow_right (by omega) (by omega)
    rw [h1]; simp
/-- What is left, the record and the rounds before round k. -/
def rndK (n : Nat) (es : List (Int × Int)) (a d : Nat) : Nat → Nat × (Nat × Int × Int) × List (List Int)
  | 0 => (2 ^ n - 1, (0, 0, 0), [])
  | k + 1 => if (rndK n es a d k).1 = 0 then rndK n es a d k else
      (mns (rndK n es a d k).1 (fewM n es (rndK n es a d k).1 a d), offV es (rndK n es a d k).1 (rndK n es a d k).2.1, (rndK n es a d k).2.2 ++ [bset (fewM n es (rndK n es a d k).1 a d)])
section
variable {n : Nat} {es : List (Int × Int)} {a d : Nat}
theorem rndK_stop {k : Nat} (h : (rndK n es a d k).1 = 0) (j : Nat) : rndK n es a d (k + j) = rndK n es a d k := by
  induction j with
  | zero => rfl
  | succ j ih =>
    show (if (rndK n es a d (k + j)).1 = 0 then rndK n es a d (k + j) else _) = _
    rw [ih, if_pos h]
theorem rndK_next {k : Nat} (h : (rndK n es a d k).1 ≠ 0) : rndK n es a d (k + 1) = (mns (rndK n es a d k).1 (fewM n es (rndK n es a d k).1 a d), offV es (rndK n es a d k).1 (rndK n es a d k).2.1, (rndK n es a d k).2.2 ++ [bset (fewM n es (rndK n es a d k).1 a d)]) := if_neg h
theorem rndK_lt (hn : n ≤ 64) (k : Nat) : (rndK n es a d k).1 < 18446744073709551616 := by
  induction k with
  | zero => exact two_lt hn
  | succ k ih =>
    by_cases h : (rndK n es a d k).1 = 0
    · rw [rndK_stop h 1]; exact ih
    · rw [rndK_next h]; exact mns_lt ih
theorem rndK_in (hn : n ≤ 64) (k i : Nat) (hi : (rndK n es a d k).1.testBit i = true) : i < n := by
  induction k with
  | zero =>
    have := all_bit n i
    rw [show (rndK n es a d 0).1 = 2 ^ n - 1 from rfl, this] at hi
    simpa using hi
  | succ k ih =>
    by_cases h : (rndK n es a d k).1 = 0
    · rw [rndK_stop h 1] at hi; exact ih hi
    · rw [rndK_next h] at hi
      simp only at hi
      rw [mns_bit (rndK_lt hn k) (fewM_lt _ _ _ _ _), Bool.and_eq_true] at hi
      exact ih hi.1
theorem rndK_len (k : Nat) : (rndK n es a d k).2.2.length ≤ k := by
  induction k with
  | zero => exact Nat.le_refl _
  | succ k ih =>
    by_cases h : (rndK n es a d k).1 = 0
    · rw [rndK_stop h 1]; omega
    · rw [rndK_next h]; simp; omega
theorem rndK_flat (k : Nat) : (rndK n es a d k).2.2.flatten.length ≤ 64 * k := by
  induction k with
  | zero => exact Nat.le_refl _
  | succ k ih =>
    by_cases h : (rndK n es a d k).1 = 0
    · rw [rndK_stop h 1]; omega
    · rw [rndK_next h]
      simp only [List.flatten_append, List.length_append, List.flatten_cons, List.flatten_nil, List.append_nil]
      have := bset_length (fewM n es (rndK n es a d k).1 a d)
      omega
theorem rndK_rec (hn : n ≤ 64) (k : Nat) : (rndK n es a d k).2.1.1 < 18446744073709551616 := by
  induction k with
  | zero => show (0 : Nat) < _; omega
  | succ k ih =>
    by_cases h : (rndK n es a d k).1 = 0
    · rw [rndK_stop h 1]; exact ih
    · rw [rndK_next h]
      simp only
      unfold offV
      split
      · exact rndK_lt hn k
      · split
        · exact rndK_lt hn k
        · exact ih
end
end Go.Proofs.YtdibfecejgjfmaaDoor

namespace Go.Proofs.YtdibfecejgjfmaaDoor
open Go.RowKit CoBit CoRat Rt

/-- Rounds, a peeling and an error are returned. -/
def RetRnd (w : World) (Ls : List (List Int)) (o S : List Int) (N D err : Int) (e : Ending) (w' : World) : Prop := ∃ A0 n0 c0 A1 n1 c1 A2 n2 c2, e = .returned (.tuple #[.slice A0 n0 c0, .agg #[.slice A1 n1 c1, .slice A2 n2 c2, .int .i64 N, .int .i64 D], .int .i64 err]) ∧ n0 ≤ c0 ∧ n1 ≤ c1 ∧ n2 ≤ c2 ∧ RLL w' A0 n0 Ls ∧ RI w' A1 n1 o ∧ RI w' A2 n2 S ∧ Below w.heap.size w w'
theorem RLL.kept {w w' : World} {B : Nat} {v : Value} {q : Option Nat} {L : List (List Int)} {g : Nat} {A : Option Addr} {c : Nat} (h : OLL w B v q L) (hg : w.grownBy w' (some g)) (hgB : g < B) (hv : v = .slice A L.length c) : RLL w' A L.length L := by
  obtain ⟨A', c', e, _, h2, _⟩ := (h.grown hg hgB).read
  rw [hv] at e
  injection e with e
  rw [e]; exact h2
theorem bset_nts (x : Nat) : nts (bl x) = bset x := rfl

set_option maxRecDepth 100000 in
set_option maxHeartbeats 8000000 in
theorem rounds_any (A : Option Addr) (m c : Nat) (n : Nat) (es : List (Int × Int)) (a d : Nat) (w : World) (hT : Tab w) (h : RE w A m es) (hm : m ≤ 68719476736) (hz : chkG n es = 0) (hn : n ≤ 64) (hok : okF a d = true) (ha : a ≤ 1048576) (hd : d ≤ 1048576) :
    Calls Tryd.prog 20 #[.agg #[.int .i64 n, .slice A m c], .agg #[.int .i64 a, .int .i64 d]] w (RetRnd w (rndK n es a d n).2.2 (rndK n es a d n).2.2.flatten (bset (rndK n es a d n).2.1.1) (rndK n es a d n).2.1.2.1 (fixD (rndK n es a d n).2.1.2.2) 0) := by
  have hgm := Lib.hid hz
  have kck := fun w h => gcheck_any A m c n es w h (by omega)
  rw [hz] at kck
  have kva := fun w => Rt.valid_any a d w
  rw [hok] at kva
  have hes : es.length ≤ 68719476736 := by rw [h.len]; exact hm
  have hTl := hT.lt
  have q1 : decide ((a : Int) < 0) = false := by simp
  have q2 : decide (1048576 < (a : Int)) = false := by simp; omega
  have q3 : decide (1048576 < (d : Int)) = false := by simp; omega
  replace kck := Lib.hid kck
  replace kva := Lib.hid kva
  clear hz hok
  go_enter Tryd.func20, Tryd.ntmps20
  go_wp2_with fail
  refine (kck.out _ (((h.alloc _).alloc _).alloc _)).mono ?_
  rintro e w1 ⟨rfl, hb1⟩
  simp only [World.size_alloc] at hb1
  have b0 : Below w.heap.size w (((w.alloc (.cells #[.int .i64 n, .slice A m c] 27)).alloc (.cells #[.int .i64 a, .int .i64 d] 31)).alloc (.cells #[.slice none 0 0, .slice none 0 0, .int .i64 0, .int .i64 0] 33)) := (((Below.refl _ _).alloc (Nat.le_refl _) _).alloc (by simp) _).alloc (by simp; omega) _
  have hb0 := b0.trans (hb1.mono (by omega))
  have G1 : Blk w1 w.heap.size 27 #[.int .i64 n, .slice A m c] := Blk.below (((Blk.new w _ _).alloc _).alloc _) hb1 (by omega)
  have X1 : Blk w1 (w.heap.size + 1) 31 #[.int .i64 a, .int .i64 d] := Blk.below ((Blk.new' _ _ _ (by simp)).alloc _) hb1 (by omega)
  have R1 : Blk w1 (w.heap.size + 1 + 1) 33 #[.slice none 0 0, .slice none 0 0, .int .i64 0, .int .i64 0] := Blk.below (Blk.new' _ _ _ (by simp)) hb1 (by omega)
  have s1 : w.heap.size + 1 + 1 + 1 ≤ w1.heap.size := by have := hb1.size; simp at this; omega
  obtain ⟨d0, d1⟩ := blkG G1
  have x0 := Blk.cell X1 0
  have x1 := Blk.cell X1 1
  simp at x0 x1
  clear hb1 b0 kck
  go_wp2_with fail
  refine (kva.out _).mono ?_
  rintro e w2 ⟨rfl, hb2⟩
  have hb02 := hb0.trans (hb2.mono (by omega))
  have G2 := G1.below hb2 G1.lt
  have X2 := X1.below hb2 X1.lt
  have R2 := R1.below hb2 R1.lt
  have s2 := hb2.size
  have hr2 := RE.below h hb02 (Nat.le_refl _)
  clear hb0 G1 X1 R1 d0 d1 x0 x1 hb2 kva
  obtain ⟨d0, d1⟩ := blkG G2
  have x0 := Blk.cell X2 0
  have x1 := Blk.cell X2 1
  simp at x0 x1
  go_wp2_with fail
  refine (rows_any A m c n es _ hr2 (by omega) hn).mono ?_
  rintro e w3 ⟨gr, rfl, hgr, hR, hb3⟩
  have hb03 := hb02.trans (hb3.mono (by omega))
  have G3 := G2.below hb3 G2.lt
  have X3 := X2.below hb3 X2.lt
  have R3 := R2.below hb3 R2.lt
  have s3 := hb3.size
  have hrl3 := hR.lt
  clear hb02 G2 X2 R2 d0 d1 x0 x1 hb3 hr2
  obtain ⟨d0, d1⟩ := blkG G3
  go_wp2_with fail
  refine (all_any n hn _).mono ?_
  rintro e w3' ⟨rfl, rfl⟩
  go_upto_region 11 with fail
  have hRec : Rec (w3.alloc (.cells #[.int .u64 0, .int .i64 0, .int .i64 0] 88)) w3.heap.size 0 0 0 := Blk.new _ _ _
  have hR4 := hR.alloc (.cells #[.int .u64 0, .int .i64 0, .int .i64 0] 88)
  have G4 := G3.alloc (.cells #[.int .u64 0, .int .i64 0, .int .i64 0] 88)
  have X4 := X3.alloc (.cells #[.int .u64 0, .int .i64 0, .int .i64 0] 88)
  have R4 := R3.alloc (.cells #[.int .u64 0, .int .i64 0, .int .i64 0] 88)
  have hb4 := hb03.alloc hb03.size (.cells #[.int .u64 0, .int .i64 0, .int .i64 0] 88)
  have s4 : (w3.alloc (.cells #[.int .u64 0, .int .i64 0, .int .i64 0] 88)).heap.size = w3.heap.size + 1 := by simp
  clear hR G3 X3 R3 hb03 d0 d1
  generalize w3.alloc (.cells #[.int .u64 0, .int .i64 0, .int .i64 0] 88) = w4 at *
  generalize w3.heap.size = gR at *
  have hne1 : gr ≠ gR := by omega
  have hgl : w.heap.size ≤ gR := by omega
  have hgt : 0 ≠ gR := by omega
  obtain ⟨d0, d1⟩ := blkG G4
  go_wp2_with fail
  go_loopw [9, 11, 12, 48] (fun lf us uo i wr => ∃ (k : Nat) (rs od : Value), k ≤ n ∧ rs = us ∧ od = uo ∧ i = .int .i64 k ∧ lf = .int .u64 ((rndK n es a d k).1 : Nat) ∧ Rec wr gR (rndK n es a d k).2.1.1 (rndK n es a d k).2.1.2.1 (rndK n es a d k).2.1.2.2 ∧ OLL wr (gR + 1) rs od.ownBlock (rndK n es a d k).2.2 ∧ OI wr (gR + 1) od (rndK n es a d k).2.2.flatten ∧ (rs.ownBlock = none ∨ rs.ownBlock ≠ od.ownBlock) ∧ AU wr gr (rowsL n es) ∧ Blk wr (w.heap.size + 1) 31 #[.int .i64 a, .int .i64 d] ∧ Blk wr (w.heap.size + 1 + 1) 33 #[.slice none 0 0, .slice none 0 0, .int .i64 0, .int .i64 0] ∧ Below w.heap.size w wr) (fun _ _ _ i _ => n - (intOf i).toNat)
  case atStart => exact ⟨0, _, _, Nat.zero_le _, rfl, rfl, rfl, rfl, hRec, OLL.nil_, OI.nil_, .inl rfl, hR4, X4, R4, hb4⟩
  case round =>
    obtain ⟨k, rs, od, hk, rfl, rfl, rfl, rfl, hRk, hL, hO, hno, hA, hX, hF, hb⟩ := hrel
    clear hRec hR4 X4 R4 hb4 G4 d0 d1
    have hsz : gR + 1 ≤ wr.heap.size := by have := Blk.lt hRk; omega
    by_cases hgo : k < n ∧ (rndK n es a d k).1 ≠ 0
    · obtain ⟨hlt, hne0⟩ := hgo
      have hnx := Lib.hid (rndK_next hne0)
      have hLl := rndK_lt (es := es) (a := a) (d := d) hn k
      have hLi := fun i hi => rndK_in (es := es) (a := a) (d := d) hn k i hi
      have hlen := rndK_len (n := n) (es := es) (a := a) (d := d) k
      have hfl := rndK_flat (n := n) (es := es) (a := a) (d := d) k
      have q0 : (((rndK n es a d k).1 : Int) == 0) = false := by rw [beq_eq_false_iff_ne]; omega
      have hoff := fun w hT hR hA => offer_any gR gr n es (rndK n es a d k).1 (rndK n es a d k).2.1 w hT hR hA hgm.out hn hLl hLi hes
      have hfew := fun w hT hA => few_any' gr n es (rndK n es a d k).1 a d w hT hA hgm.out hn hLl hLi ha hd hes
      have hMl := fewM_lt n es (rndK n es a d k).1 a d
      have hM64 := bset_length (fewM n es (rndK n es a d k).1 a d)
      have e1 := u64_andNot_nat (rndK n es a d k).1 (fewM n es (rndK n es a d k).1 a d) hLl hMl
      rw [show (rndK n es a d k).1 &&& (18446744073709551615 - fewM n es (rndK n es a d k).1 a d) = mns (rndK n es a d k).1 (fewM n es (rndK n es a d k).1 a d) from rfl] at e1
      generalize rndK n es a d k = S1 at *
      obtain ⟨LF, RC, LS⟩ := S1
      simp only at *
      generalize fewM n es LF a d = M at *
      generalize mns LF M = LF2 at *
      generalize offV es LF RC = RC2 at *
      have i0 : (0 : Int) ≤ (k : Int) := Int.natCast_nonneg _
      have i1 : (k : Int) < (n : Int) := by omega
      have hTr := hT.keep hb
      replace hoff := Lib.hid hoff
      replace hfew := Lib.hid hfew
      clear hLi hne0
      go_wp2_with fail
      (with_reducible refine (hoff.out _ hTr hRk hA).mono ?_)
      rintro e w5 ⟨rfl, hR5, hg5⟩
      have hA5 := AU.grown hA hg5 (by intro e; injection e with e; omega)
      have hX5 := Blk.grown hX hg5 (by intro e; injection e with e; omega)
      have hF5 := Blk.grown hF hg5 (by intro e; injection e with e; omega)
      have hL5 := OLL.grown hL hg5 (Nat.lt_succ_self gR)
      have hO5 := OI.kept hO hg5 (by
        cases ho : od.ownBlock with
        | none => exact .inl rfl
        | some g => exact .inr (fun e => by injection e with e; have := (hO.block_lt g ho).1; omega))
      have hb5 : Below w.heap.size w w5 := hb.grown hg5 hb.size (fun k hk => by injection hk with hk; omega)
      have s5 := hg5.size
      clear hRk hL hO hA hX hF hb hg5 hTr hoff
      have x0 := Blk.cell hX5 0
      have x1 := Blk.cell hX5 1
      simp at x0 x1
      have hT5 := hT.keep hb5
      go_wp2_with fail
      (with_reducible refine (hfew.out _ hT5 hA5).mono ?_)
      rintro e w6 ⟨rfl, hb6⟩
      have hA6 := hA5.below hb6 hA5.lt
      have hX6 := hX5.below hb6 hX5.lt
      have hF6 := hF5.below hb6 hF5.lt
      have hR6 := Blk.below hR5 hb6 (Blk.lt hR5)
      have hL6 := hL5.below hb6 (Nat.le_refl _)
      have hO6 := hO5.below hb6 (Nat.le_refl _)
      have hb06 := hb5.trans (hb6.mono hb5.size)
      have s6 := hb6.size
      clear hR5 hL5 hO5 hA5 hX5 hF5 hb5 hb6 hT5 hfew x0 x1
      have hT6 := hT.keep hb06
      go_wp2_with fail
      refine (list_any M hMl _ hT6).mono ?_
      rintro e w7 ⟨A7, n7, c7, rfl, hc7, hr7, hb7, hf7⟩
      have hA7 := hA6.below hb7 hA6.lt
      have hX7 := hX6.below hb7 hX6.lt
      have hF7 := hF6.below hb7 hF6.lt
      have hR7 := Blk.below hR6 hb7 (Blk.lt hR6)
      have hL7 := hL6.below hb7 (Nat.le_refl _)
      have hO7 := hO6.below hb7 (Nat.le_refl _)
      have hb07 := hb06.trans (hb7.mono hb06.size)
      have s7 := hb7.size
      have hfor : ∀ ad, A7 = some ad → 0 < n7 → some ad.block ≠ rs.ownBlock ∧ some ad.block ≠ od.ownBlock ∧ gR + 1 ≤ ad.block ∧ ad.block < w7.heap.size := by
        intro ad e h0
        have hfb := hf7 ad e
        refine ⟨fun he => ?_, fun he => ?_, by omega, ?_⟩
        · have := (hL6.lt _ he.symm).2; omega
        · have := (hO6.block_lt _ he.symm).2; omega
        · obtain ⟨ad', e', hlt', _⟩ := (show Reads w7 w7.heap.size 1 A7 n7 (ints (nts (bl M))) from hr7).2 h0
          rw [e] at e'; injection e' with e'; subst e'; exact hlt'
      have hno' : od.ownBlock = none ∨ od.ownBlock ≠ rs.ownBlock := by
        rcases hno with h | h
        · rw [h]; cases od.ownBlock <;> simp
        · exact .inr (Ne.symm h)
      rw [bset_nts] at hr7
      clear hR6 hL6 hO6 hA6 hX6 hF6 hb06 hb7 hT6 hf7
      go_wp2_with (at_builtin; refine wpList_pushL rfl _ _ rfl rfl rfl (by simp) hL7 (by omega) (by omega) hc7 hr7 hfor ?_; intro v8 w8 hL8 hb8 hg8 hv8)
      have hO8 := OI.kept hO7 hg8 hno'
      have hA8 := hA7.below hb8 (by omega)
      have hX8 := hX7.below hb8 (by omega)
      have hF8 := hF7.below hb8 (by omega)
      have hR8 := Blk.below hR7 hb8 (by omega)
      have hb08 := hb07.trans (hb8.mono (by omega))
      have s8 := hb8.size
      have hno8 : v8.ownBlock = none ∨ v8.ownBlock ≠ od.ownBlock := by
        rcases hv8 with h | ⟨j, h, hj⟩
        · rw [h]; exact hno
        · refine .inr fun e => ?_
          rw [h] at e
          have := (hO7.block_lt j e.symm).2
          omega
      clear hR7 hL7 hO7 hA7 hX7 hF7 hb07 hg8 hb8 hr7 hfor hno hno' hv8
      have hT8 := hT.keep hb08
      go_wp2_with fail
      refine (list_any M hMl _ hT8).mono ?_
      rintro e w9 ⟨A9, n9, c9, rfl, hc9, hr9, hb9, hf9⟩
      have hA9 := hA8.below hb9 hA8.lt
      have hX9 := hX8.below hb9 hX8.lt
      have hF9 := hF8.below hb9 hF8.lt
      have hR9 := Blk.below hR8 hb9 (Blk.lt hR8)
      have hL9 := hL8.below hb9 (Nat.le_refl _)
      have hO9 := hO8.below hb9 (Nat.le_refl _)
      have hb09 := hb08.trans (hb9.mono hb08.size)
      have s9 := hb9.size
      rw [bset_nts] at hr9
      have hn9 : n9 ≤ 64 := by rw [← hr9.len]; exact hM64
      clear hR8 hL8 hO8 hA8 hX8 hF8 hb08 hb9 hT8 hf9
      go_wp2_with (at_builtin; refine wpList_catb rfl _ _ rfl rfl rfl hO9 hr9 (by omega) (by omega) ?_; intro v10 w10 hO10 hb10 hg10 hv10)
      have hL10 := OLL.step hL9 hg10 hno8 hv10
      have hA10 := hA9.below hb10 (by omega)
      have hX10 := hX9.below hb10 (by omega)
      have hF10 := hF9.below hb10 (by omega)
      have hR10 := Blk.below hR9 hb10 (by omega)
      have hb010 := hb09.trans (hb10.mono (by omega))
      have hno10 : v8.ownBlock = none ∨ v8.ownBlock ≠ v10.ownBlock := by
        rcases hv10 with h | ⟨j, h, hj⟩
        · rw [h]; exact hno8
        · refine .inr fun e => ?_
          rw [h] at e
          have := (hL9.lt j e).2
          omega
      clear hR9 hL9 hO9 hA9 hX9 hF9 hb09 hg10 hb10 hr9 hno8 hv10
      go_wp2_with fail
      go_roundw
      case rel =>
        refine ⟨k + 1, v8, v10, by omega, rfl, rfl, by go_num, ?_, ?_, ?_, ?_, hno10, hA10, hX10, hF10, hb010⟩
        · rw [hnx.out]
        · rw [hnx.out]; exact hR10
        · rw [hnx.out]; exact hL10
        · rw [hnx.out]
          simp only [List.flatten_append, List.flatten_cons, List.flatten_nil, List.append_nil]
          exact hO10
      case measure => simp [intOf]; omega
    · have hend : rndK n es a d k = rndK n es a d n := by
        by_cases hk' : k = n
        · rw [hk']
        · have h0 : (rndK n es a d k).1 = 0 := by
            rcases Nat.eq_zero_or_pos (rndK n es a d k).1 with h | h
            · exact h
            · exact absurd ⟨by omega, by omega⟩ hgo
          have := rndK_stop h0 (n - k)
          rw [show k + (n - k) = n by omega] at this
          exact this.symm
      have hways : (k = n) ∨ (k < n ∧ (((rndK n es a d k).1 : Int) == 0) = true) := by
        rcases Nat.lt_or_ge k n with h | h
        · refine .inr ⟨h, ?_⟩
          rcases Nat.eq_zero_or_pos (rndK n es a d k).1 with h1 | h1
          · rw [h1]; rfl
          · exact absurd ⟨h, by omega⟩ hgo
        · exact .inl (by omega)
      have hs := rndK_rec (es := es) (a := a) (d := d) hn n
      have hfl := rndK_flat (n := n) (es := es) (a := a) (d := d) n
      rw [hend] at hRk hL hO hways ⊢
      generalize rndK n es a d n = S1 at *
      obtain ⟨LF, ⟨rs', rN, rD⟩, LS⟩ := S1
      simp only at *
      obtain ⟨A6, n6, c6, rfl, hn6, hc6, -, hr6⟩ := hO.form
      have hfr6 := OI.fresh hO hn6
      replace hn6 := Lib.hid hn6
      have hgRl := Blk.lt hRk
      have hTr := hT.keep hb
      have kpe := peeling_any gR A6 n6 c6 LS.flatten rs' rN rD wr hTr hRk hs hgRl hr6 hc6 (fun ad e h => by have := hfr6 ad e; injection h with h; omega) hgt
      clear hO hA hX hgo hend hfl hno
      replace kpe := Lib.hid kpe
      have i0 : (0 : Int) ≤ (k : Int) := Int.natCast_nonneg _
      rcases hways with rfl | ⟨hkn, q0⟩
      all_goals
        (try have i1 : (k : Int) < (n : Int) := by omega)
        go_wp2_with fail
        refine kpe.out.mono ?_
        rintro e w5 ⟨A5, n5, c5, rfl, hc5, hr5, hf5, hg5⟩
        have hF5 := Blk.grown hF hg5 (by intro e; injection e with e; omega)
        have hL5 := OLL.grown hL hg5 (Nat.lt_succ_self gR)
        have hr65 := RI.kept hr6 hg5 (fun ad e h => by have := hfr6 ad e; injection h with h; omega)
        have hb05 : Below w.heap.size w w5 := hb.grown hg5 hb.size (fun k hk => by injection hk with hk; omega)
        have hs5 := hg5.size
        have z0 := Blk.cell hF5 0
        have z1 := Blk.cell hF5 1
        have z2 := Blk.cell hF5 2
        have z3 := Blk.cell hF5 3
        have y0 := Blk.frozen hF5 0
        have y1 := Blk.frozen hF5 1
        have y2 := Blk.frozen hF5 2
        have y3 := Blk.frozen hF5 3
        simp at z0 z1 z2 z3
        have hzz := Blk.set (Blk.set (Blk.set (Blk.set hF5 0 (.slice A6 n6 c6)) 1 (.slice A5 n5 c5)) 2 (.int .i64 rN)) 3 (.int .i64 (fixD rD))
        have e0 := Blk.cell hzz 0
        have e1 := Blk.cell hzz 1
        have e2 := Blk.cell hzz 2
        have e3 := Blk.cell hzz 3
        simp at e0 e1 e2 e3
        have hGz := grown_set (grown_set (grown_set (grown_set (World.grownBy.refl w5 (some (w.heap.size + 1 + 1))) 0 (.slice A6 n6 c6)) 1 (.slice A5 n5 c5)) 2 (.int .i64 rN)) 3 (.int .i64 (fixD rD))
        have hrA := RI.kept hr65 hGz (fun ad e h => by have := hfr6 ad e; injection h with h; omega)
        have hrB := RI.kept hr5 hGz (fun ad e h => by have := hf5 ad e; injection h with h; omega)
        have hLz := OLL.grown hL5 hGz (by omega)
        have hbz : Below w.heap.size w _ := hb05.grown hGz hb05.size (fun k hk => by injection hk with hk; omega)
        obtain ⟨A0, c0, rfl, hc0, hR0, -⟩ := hLz.read
        clear hL hF hL5 hr65 hr5 hf5 hg5 hF5 hzz hGz hb05 hLz hRk hb hr6
        go_wp2_with fail
        refine bodyPost_ret (v := .tuple #[.slice A0 LS.length c0, .agg #[.slice A6 n6 c6, .slice A5 n5 c5, .int .i64 rN, .int .i64 (fixD rD)], .int .i64 0]) (by simp [results, Tryd.results20, go_sem, e0, e1, e2, e3]) rfl ?_
        exact ⟨A0, _, c0, A6, n6, c6, A5, n5, c5, rfl, hc0, hc6, hc5, hR0, hrA, hrB, hbz⟩
end Go.Proofs.YtdibfecejgjfmaaDoor
