/- Package plex: hopeless; the search's state. -/
import Derived.Test.YtfefginhlliccaaDoorPlxA
import Derived.Test.YtfefginhlliccaaDoorOwnB
set_option linter.unusedVariables false
set_option linter.unusedSimpArgs false
namespace Go.Proofs.YtfefginhlliccaaDoor.Pl
open Go.RowKit CoBit CoCli Go.Proofs.YtfefginhlliccaaDoor

/-- A row of the call's own, one number shorter. -/
theorem OI.trunc {w : World} {B n c : Nat} {A : Option Addr} {xs : List Int} {y : Int} (h : OI w B (.slice A n c) (xs ++ [y])) : OI w B (.slice A (n - 1) c) xs := by
  rcases h.2 with ⟨_, h0⟩ | ⟨g, cap, cur, hv, h1, h2, h3, h4, h5, h6⟩
  · simp at h0
  · simp only [Value.slice.injEq] at hv
    obtain ⟨rfl, rfl, rfl⟩ := hv
    have hl : (xs ++ [y]).length = xs.length + 1 := by simp
    refine ⟨by rw [ints_length]; simp, .inr ⟨g, c, cur, by rw [hl]; rfl, h1, h2, by omega, h4, h5, ?_⟩⟩
    have h7 := congrArg (List.take xs.length) h6
    rw [List.take_take, Nat.mul_one, Nat.min_eq_left (by omega), ints_append, List.take_left' (ints_length xs)] at h7
    rw [Nat.mul_one]; exact h7

/-- The search's state in memory: s at sb, the sets of neighbours at gr, the path in a row of its own; all of it in the blocks O. -/
structure St (n0 B0 gr sb n : Nat) (rows : List Nat) (k least : Nat) (Aa : Option Addr) (na ca : Nat) (after : List Int) (O : Nat → Prop) (W : World) (pv : Value) (p : List Nat) : Prop where
  blk : Blk W sb 88 #[.slice (some ⟨gr, 0, none⟩) n n, .int .i64 k, .int .i64 least, .slice Aa na ca, pv]
  adj : AU W gr rows
  own : OI W n0 pv (nt p)
  osb : O sb
  ogr : O gr
  op : ∀ b, pv.ownBlock = some b → O b ∧ b ≠ sb ∧ b ≠ gr
  tab : Tab W
  aft : RI W Aa na after
  afl : ∀ ad, Aa = some ad → 0 < na → ad.block < n0
  lt : ∀ b, O b → B0 ≤ b ∧ b < W.heap.size
  ne : gr ≠ sb
  gt : 0 < n0

section
variable {n0 B0 gr sb n : Nat} {rows : List Nat} {k least : Nat} {Aa : Option Addr} {na ca : Nat} {after : List Int} {O O' : Nat → Prop} {W W' : World} {pv pv' : Value} {p p' : List Nat}
theorem St.drewN (h : St n0 B0 gr sb n rows k least Aa na ca after O W pv p) (q : Nat) : St n0 B0 gr sb n rows k least Aa na ca after O (W.drewN q) pv p :=
  ⟨h.blk, h.adj, h.own, h.osb, h.ogr, h.op, h.tab, h.aft, h.afl, h.lt, h.ne, h.gt⟩
/-- What keeps the blocks O and all below n0 keeps the state. -/
theorem St.keep (h : St n0 B0 gr sb n rows k least Aa na ca after O W pv p) (hs : Same (fun b => ¬ (O b ∨ b < n0)) W W') : St n0 B0 gr sb n rows k least Aa na ca after O W' pv p :=
  ⟨hs.blk h.blk (fun hn => hn (.inl h.osb)), hs.blk h.adj (fun hn => hn (.inl h.ogr)), hs.oi h.own (fun b hb hn => hn (.inl (h.op b hb).1)), h.osb, h.ogr, h.op,
    fun j hj => hs.cell (p := ⟨0, j, none⟩) (Nat.lt_of_not_le fun hh => by have h0 := h.tab j hj; unfold World.cell? at h0; rw [Array.getElem?_eq_none hh] at h0; cases h0) (fun hn => hn (.inr h.gt)) (h.tab j hj),
    hs.ri h.aft (fun ad e hp hn => hn (.inr (h.afl ad e hp))), h.afl, fun b hb => ⟨(h.lt b hb).1, Nat.lt_of_lt_of_le (h.lt b hb).2 hs.size⟩, h.ne, h.gt⟩
/-- The path is another one: only the search's block and rows of the path's are written. -/
theorem St.path (h : St n0 B0 gr sb n rows k least Aa na ca after O W pv p) {w4 : World} (hs : Same (fun b => pv.ownBlock = some b) W w4) (ho : OI w4 n0 pv' (nt p')) (hv : pv'.ownBlock = pv.ownBlock ∨ ∃ b, pv'.ownBlock = some b ∧ W.heap.size ≤ b) (hn0 : n0 ≤ B0) :
    St n0 B0 gr sb n rows k least Aa na ca after (fun b => O b ∨ pv'.ownBlock = some b) (w4.setCell ⟨sb, 4, none⟩ pv') pv' p' ∧ Same O W (w4.setCell ⟨sb, 4, none⟩ pv') := by
  have hB0 : B0 ≤ W.heap.size := by have := h.lt sb h.osb; omega
  have hpb : ∀ b, pv'.ownBlock = some b → b < w4.heap.size ∧ B0 ≤ b ∧ b ≠ sb ∧ b ≠ gr := fun b hb => by
    refine ⟨(ho.block_lt b hb).2, ?_⟩
    rcases hv with hv | ⟨b', hv, hb'⟩
    · rw [hv] at hb
      exact ⟨(h.lt b (h.op b hb).1).1, (h.op b hb).2⟩
    · rw [hv] at hb; injection hb with hb; subst hb
      have h1 := (h.lt sb h.osb).2
      have h2 := (h.lt gr h.ogr).2
      omega
  have h1 : Same (fun b => pv.ownBlock = some b ∨ b = sb) W (w4.setCell ⟨sb, 4, none⟩ pv') := (hs.mono (fun _ _ h => .inl h)).trans (Same.set w4 sb 4 pv') (fun _ _ h => .inr h)
  have hb4 := hs.blk h.blk (fun e => (h.op sb e).2.1 rfl)
  have hO : Same O W (w4.setCell ⟨sb, 4, none⟩ pv') := h1.mono fun b _ hb => by
    rcases hb with hb | rfl
    · exact (h.op b hb).1
    · exact h.osb
  have hlow : ∀ b, b < n0 → ¬ (pv.ownBlock = some b ∨ b = sb) := fun b hb e => by
    rcases e with e | rfl
    · have := h.lt b (h.op b e).1; omega
    · have := h.lt b h.osb; omega
  refine ⟨⟨Blk.set hb4 4 pv', h1.blk h.adj (fun e => ?_), ?_, .inl h.osb, .inl h.ogr, fun b hb => ⟨.inr hb, (hpb b hb).2.2⟩, fun j hj => ?_, h1.ri h.aft (fun ad e hp hn => hlow _ (h.afl ad e hp) hn), h.afl, fun b hb => ?_, h.ne, h.gt⟩, hO⟩
  · rcases e with e | e
    · exact (h.op gr e).2.2 rfl
    · exact h.ne e
  · exact (Same.set w4 sb 4 pv').oi ho (fun b hb e => (hpb b hb).2.2.1 e)
  · exact h1.cell (p := ⟨0, j, none⟩) (Nat.lt_of_lt_of_le h.gt (Nat.le_trans hn0 hB0)) (hlow _ h.gt) (h.tab j hj)
  · have hsz : (w4.setCell ⟨sb, 4, none⟩ pv').heap.size = w4.heap.size := by simp
    rw [hsz]
    rcases hb with hb | hb
    · exact ⟨(h.lt b hb).1, Nat.lt_of_lt_of_le (h.lt b hb).2 hs.size⟩
    · exact ⟨(hpb b hb).2.1, (hpb b hb).1⟩
end
theorem hop_bit {rows : List Nat} {z : Nat} {p : List Nat} {x : Nat} (hx : x < 18446744073709551616) (hp : ∀ v ∈ p, v < 64) (hr : rows.getD z 0 < 18446744073709551616) :
    ((mskN p ||| x) &&& (18446744073709551615 - rows.getD z 0) = 0) ↔ ((p ++ bl x).all fun u => ad rows z u) = true := by
  rw [List.all_eq_true]
  have e64 : (2 : Nat) ^ 64 = 18446744073709551616 := by decide +kernel
  have hm := mskN_lt hp
  have hor : mskN p ||| x < 2 ^ 64 := by rw [e64]; exact CoBit.or_lt hm hx
  have hbit : ∀ i, i < 64 → ((mskN p ||| x) &&& (18446744073709551615 - rows.getD z 0)).testBit i = ((decide (i ∈ p) || x.testBit i) && !(rows.getD z 0).testBit i) := fun i hi => by
    rw [Nat.testBit_and, Nat.testBit_or, mskN_bit, show 18446744073709551615 - rows.getD z 0 = 2 ^ 64 - (rows.getD z 0 + 1) by rw [e64]; omega, Nat.testBit_two_pow_sub_succ (by rw [e64]; exact hr)]
    simp [hi]
  constructor
  · intro h0 u hu
    have hu64 : u < 64 ∧ (decide (u ∈ p) || x.testBit u) = true := by
      rw [List.mem_append] at hu
      rcases hu with hu | hu
      · exact ⟨hp u hu, by simp [hu]⟩
      · rw [mem_bl] at hu; exact ⟨hu.1, by simp [hu.2]⟩
    have := hbit u hu64.1
    rw [h0, Nat.zero_testBit, hu64.2] at this
    unfold ad
    simpa using this
  · intro h
    refine Nat.eq_of_testBit_eq fun i => ?_
    rw [Nat.zero_testBit]
    by_cases hi : i < 64
    · rw [hbit i hi]
      by_cases hm : (decide (i ∈ p) || x.testBit i) = true
      · have : i ∈ p ++ bl x := by
          rw [List.mem_append, mem_bl]
          rw [Bool.or_eq_true, decide_eq_true_iff] at hm
          rcases hm with hm | hm
          · exact .inl hm
          · exact .inr ⟨hi, hm⟩
        have := h i this
        unfold ad at this
        rw [this]; simp
      · rw [Bool.not_eq_true] at hm; rw [hm]; rfl
    · rw [Nat.testBit_and, Nat.testBit_lt_two_pow (Nat.lt_of_lt_of_le hor (Nat.pow_le_pow_right (by omega) (by omega)))]; rfl
theorem any_step {l : List Nat} {f : Nat → Bool} {z : Nat} (h : l.any f = false) (hz : f z = false) : (l ++ [z]).any f = false := by simp [h, hz]

set_option maxRecDepth 100000 in
set_option maxHeartbeats 1000000 in
theorem hop_any (n0 B0 gr sb n : Nat) (rows : List Nat) (hl : rows.length = n) (hn : n ≤ 64) (hrl : ∀ x ∈ rows, x < 18446744073709551616) (k least : Nat) (Aa : Option Addr) (na ca : Nat) (after : List Int) (O : Nat → Prop) (pv : Value) (p : List Nat) (hp : ∀ v ∈ p, v < 64) (hpl : p.length ≤ 64) (x y : Nat)
    (hx : x < 18446744073709551616) (hy : y < 18446744073709551616) (hyn : ∀ i, y.testBit i = true → i < n) (w : World) (hS : St n0 B0 gr sb n rows k least Aa na ca after O w pv p) :
    Calls Tryd.prog 75 #[.pointer (some ⟨sb, 0, none⟩), .int .u64 y, .int .u64 x] w fun e w' => e = .returned (.bool (hop (ad rows) p (bl x) (bl y))) ∧ ∃ q, w' = w.drewN q := by
  obtain ⟨Ap, np, cp, rfl, hnp, hcp, _, hrp⟩ := hS.own.form
  have hnp' : np ≤ 1099511627776 := by rw [hnp, nt_length]; omega
  have hmk := fun w (h : RI w Ap np (nt p)) => mask_any Ap np cp p w h hnp' hp
  have hblk := hS.blk
  have hA := hS.adj
  have hT := hS.tab
  clear hnp' hcp hS
  replace hmk := Lib.hid hmk
  replace hnp := Lib.hid hnp
  have hml := mskN_lt hp
  generalize hP : mskN p = P at *
  replace hP := Lib.hid hP
  go_enter Tryd.func75, Tryd.ntmps75
  go_wp2
  go_loopw [1] (fun v wr => ∃ (m : Nat) (l : List Nat), v = .int .u64 m ∧ m < 18446744073709551616 ∧ Hid (bl y = l ++ bl m) ∧ Hid ((l.any fun v => (p ++ bl x).all fun u => ad rows v u) = false) ∧ Hid (∃ q, wr = w.drewN q)) (fun v _ => (intOf v).toNat)
  case atStart => exact ⟨y, [], rfl, hy, Lib.hid rfl, Lib.hid rfl, Lib.hid ⟨0, rfl⟩⟩
  case round =>
    obtain ⟨m, l, rfl, hm, hl1, hg, hw⟩ := hrel
    have hAr : AU wr gr rows := by obtain ⟨q, rfl⟩ := hw.out; exact hA
    have hTr : Tab wr := by obtain ⟨q, rfl⟩ := hw.out; exact hT
    have hbr : Blk wr sb 88 #[.slice (some ⟨gr, 0, none⟩) n n, .int .i64 k, .int .i64 least, .slice Aa na ca, .slice Ap np cp] := by obtain ⟨q, rfl⟩ := hw.out; exact hblk
    have hrr : RI wr Ap np (nt p) := by obtain ⟨q, rfl⟩ := hw.out; exact hrp
    by_cases h0 : 0 < m
    · have hz : ((m : Int) != 0) = true := by simp; omega
      have hst := bl_step h0 hm
      have hl2 : bl y = l ++ Lib.ctz 64 m :: bl (m &&& (m - 1)) := by rw [hl1.out, hst]
      have hin : Lib.ctz 64 m ∈ bl y := by rw [hl2]; simp
      have hin2 := hin
      rw [mem_bl] at hin
      have hlt := and_pred_lt h0
      have hlt2 := and_lt' (y := m - 1) hm
      have hand := bits_and_u64_nat m (m - 1) hm (by omega)
      have hsub : IntKind.u64.wrap ((m : Int) - 1) = ((m - 1 : Nat) : Int) := by rw [show (m : Int) - 1 = ((m - 1 : Nat) : Int) by omega]; exact u64_in _ (by omega)
      have hl3 : bl y = (l ++ [Lib.ctz 64 m]) ++ bl (m &&& (m - 1)) := by rw [hl2]; simp
      have hzn := hyn _ hin.2
      have htz := fun w hT => tz_any m h0 hm w hT
      clear hin hst hl2
      generalize Lib.ctz 64 m = z at *
      generalize m &&& (m - 1) = m' at *
      have hcz := hAr.cell (i := z) (by omega)
      have hr64 := getD_lt hrl z
      have hbit := hop_bit (rows := rows) (z := z) hx hp hr64
      rw [hP.out] at hbit
      generalize rows.getD z 0 = rz at *
      have ho1 := bits_or_u64_nat P x hml hx
      have hPx := CoBit.or_lt hml hx
      have ho2 := u64_andNot_nat (P ||| x) rz hPx hr64
      generalize P ||| x = Px at *
      generalize Px &&& (18446744073709551615 - rz) = R at *
      have c0 := Blk.cell hbr 0
      have c4 := Blk.cell hbr 4
      simp at c0 c4
      replace hl3 := Lib.hid hl3
      replace htz := Lib.hid htz
      have i0 : (0 : Int) ≤ (z : Int) := Int.natCast_nonneg _
      have i1 : (z : Int) < (n : Int) := by omega
      by_cases hR : R = 0
      · have hfin : hop (ad rows) p (bl x) (bl y) = true := by
          unfold hop
          rw [List.any_eq_true]
          exact ⟨z, hin2, hbit.1 hR⟩
        have hd : ((R : Int) == 0) = true := by rw [hR]; rfl
        replace hfin := Lib.hid hfin
        clear hbit hR
        go_wp2_with fail
        go_quiet ((first | (go_at_call 50; exact Calls.quiet_of_same (hmk.out _ (hrr.drewN _))) | (go_at_call 69; exact Calls.quiet_of_same ((htz.out _ (Tab.drewN hTr _)).mono (fun _ _ ⟨h1, h2⟩ => ⟨h1, h2.symm⟩)))))
        go_wp2_with fail
        go_ret
        exact ⟨retBool hfin.out.symm, by obtain ⟨q, rfl⟩ := hw.out; exact ⟨_, World.drewN_drewN ..⟩⟩
      · have hg2 : ((l ++ [z]).any fun v => (p ++ bl x).all fun u => ad rows v u) = false := any_step hg.out (by
          cases h : (p ++ bl x).all fun u => ad rows z u with
          | false => rfl
          | true => exact absurd (hbit.2 h) hR)
        have hd : ((R : Int) == 0) = false := by rw [beq_eq_false_iff_ne]; omega
        replace hg2 := Lib.hid hg2
        clear hbit hR
        go_wp2_with fail
        go_quiet ((first | (go_at_call 50; exact Calls.quiet_of_same (hmk.out _ (hrr.drewN _))) | (go_at_call 69; exact Calls.quiet_of_same ((htz.out _ (Tab.drewN hTr _)).mono (fun _ _ ⟨h1, h2⟩ => ⟨h1, h2.symm⟩)))))
        go_wp2_with fail
        go_roundw
        case rel => exact ⟨m', _, rfl, hlt2, hl3, hg2, Lib.hid (by obtain ⟨q, rfl⟩ := hw.out; exact ⟨_, World.drewN_drewN ..⟩)⟩
        case measure => simp [intOf]; omega
    · have hz : ((m : Int) != 0) = false := by simp; omega
      have hfin : hop (ad rows) p (bl x) (bl y) = false := by
        have := hl1.out
        rw [show m = 0 by omega, bl_zero, List.append_nil] at this
        unfold hop; rw [this]; exact hg.out
      replace hfin := Lib.hid hfin
      go_wp2
      go_ret
      exact ⟨retBool hfin.out.symm, hw.out⟩
end Go.Proofs.YtfefginhlliccaaDoor.Pl
