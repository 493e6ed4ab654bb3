/- The reference's Of. -/
import Derived.Test.YtkcmbpokoijglaaMobC
import Derived.BigRegion
set_option linter.unusedVariables false
set_option linter.unusedSimpArgs false
namespace CoMot
theorem pr_take {l : List Tick} {k : Nat} {x : Tick} (h : l[k]? = some x) : rO ((l.take (k + 1)).map pr) = rT (rO ((l.take k).map pr)) (x.u, x.v) := by
  rw [List.take_add_one, h, List.map_append]
  exact rO_snoc _ _
end CoMot
namespace Go.Proofs.Ytkcmbpokoijglaa
open Go.RowKit CoMot

set_option maxRecDepth 100000 in
set_option maxHeartbeats 8000000 in
theorem rof_any (A : Option Addr) (n c : Nat) (l : List Tick) (w : World) (h : RS TE w A n l) (hn : n ≤ 4096) :
    Calls Try.prog 21 #[.slice A n c] w (RetOf w l) := by
  have hl := Lib.hid h.len
  have kx := Lib.hid fun A n c xs v w h hn => rvar_any A n c xs v w h hn
  have kv := Lib.hid fun A n c m w h hc => rvalid31_any A n c m w h hc
  go_enter Try.func21, Try.ntmps21
  go_wp2_with fail
  go_loopw [4, 5, 6] (fun o p i wr => ∃ (v1 v2 : Value) (k : Nat), v1 = o ∧ v2 = p ∧ i = .int .i64 (k : Int) ∧ k ≤ n ∧ OS IE 3 wr w.heap.size v1 (rO ((l.take k).map pr)).1 ∧ OS SE 34 wr w.heap.size v2 (rO ((l.take k).map pr)).2 ∧ (∀ k, v1.ownBlock = some k → v2.ownBlock ≠ some k) ∧ Below w.heap.size w wr) (fun _ _ i _ => n - (intOf i).toNat)
  case atStart => exact ⟨_, _, 0, rfl, rfl, rfl, Nat.zero_le _, OS.nil_, OS.nil_, fun k h => (by cases h), Below.refl _ _⟩
  case round =>
    obtain ⟨v1, v2, k, rfl, rfl, rfl, hk, o1, o2, hne, hb⟩ := hrel
    by_cases hlt : k < n
    · obtain ⟨ad, x, y, t, rfl, hbl, hx, -, c0, c1, -⟩ := (h.below hb (Nat.le_refl _)).tk' hlt
      have hrO := Lib.hid (pr_take hx)
      have hlen := rO_len ((l.take k).map pr)
      rw [List.length_map, List.length_take] at hlen
      have hl2 := hl.out
      have i2 : (0 : Int) ≤ (k : Int) := Int.natCast_nonneg _
      have i3 : (k : Int) < (n : Int) := by omega
      have hs := hb.size
      generalize hp : rO ((l.take k).map pr) = P at *
      obtain ⟨ns, m⟩ := P
      simp only at o1 o2 hrO hlen
      have hn1 : ns.length ≤ 10000 := by omega
      have hn2 : m.length ≤ 10000 := by omega
      replace hp := Lib.hid hp
      clear hx hlen hl2
      go_upto_region 7 with fail
      have hbA := (Below.refl wr.heap.size wr).alloc (Nat.le_refl _) (.cells #[.int .i64 0, .int .i64 0] 34)
      have hbl1 : ad.block < (wr.alloc (.cells #[.int .i64 0, .int .i64 0] 34)).heap.size := by simp; omega
      replace c0 := (hbA.cell (p := ad.add (k * 3)) (by rw [block_of_add]; exact hbl)).trans c0
      replace c1 := (hbA.cell (p := ⟨(ad.add (k * 3)).block, (ad.add (k * 3)).off + 1, none⟩) (by show (ad.add (k * 3)).block < _; rw [block_of_add]; exact hbl)).trans c1
      have hbB := (Below.refl (wr.alloc (.cells #[.int .i64 0, .int .i64 0] 34)).heap.size (wr.alloc (.cells #[.int .i64 0, .int .i64 0] 34))).alloc (Nat.le_refl _) (.cells #[.int .i64 0, .int .i64 0] 34)
      have d0 := (hbB.cell (p := ad.add (k * 3)) (by rw [block_of_add]; exact hbl1)).trans c0
      have d1 := (hbB.cell (p := ⟨(ad.add (k * 3)).block, (ad.add (k * 3)).off + 1, none⟩) (by show (ad.add (k * 3)).block < _; rw [block_of_add]; exact hbl1)).trans c1
      have B1 := Blk.new wr 34 #[.int .i64 0, .int .i64 0]
      have o1' := o1.alloc (.cells #[.int .i64 0, .int .i64 0] 34)
      have o2' := o2.alloc (.cells #[.int .i64 0, .int .i64 0] 34)
      have hgs1 := o1.ne_new
      have hgs2 := o2.ne_new
      have hb1 := hb.trans (hbA.mono hs)
      have hs1 := hb1.size
      clear hbA hbB hb o1 o2 hbl
      generalize wr.alloc (.cells #[.int .i64 0, .int .i64 0] 34) = W1 at *
      generalize wr.heap.size = gs at *
      go_region
      have R0 : RO w.heap.size (W1.alloc (.cells #[.int .i64 x, .int .i64 y] 34)).drew v1 v2 ns m gs W1.heap.size 0 0 x y :=
        ⟨(o1'.alloc _).drew, (o2'.alloc _).drew, hne, fun q hq => ⟨fun e => hgs1 (by rw [hq, e]), fun e => by have := (o1'.block_lt q hq).2; omega⟩, fun q hq => ⟨fun e => hgs2 (by rw [hq, e]), fun e => by have := (o2'.block_lt q hq).2; omega⟩, by have := B1.lt; omega, (B1.alloc _).drew, (Blk.new _ _ _).drew, ⟨hs, hs1⟩⟩
      have hb2 := (hb1.alloc hs1 (.cells #[.int .i64 x, .int .i64 y] 34)).drew
      clear c0 c1 d0 d1 B1 o1' o2' hgs1 hgs2 hb1 hne
      generalize (W1.alloc (.cells #[.int .i64 x, .int .i64 y] 34)).drew = W2 at *
      generalize W1.heap.size = ge at *
      go_wp2_with fail
      go_loopw [4, 9] (fun o j wi => ∃ (v : Value) (jj : Nat) (cur : List Int) (s0 s1 : Int), v = o ∧ j = .int .i64 (jj : Int) ∧ RO w.heap.size wi v v2 cur m gs ge s0 s1 x y ∧ Below w.heap.size w wi ∧ ((jj = 0 ∧ Hid (cur = ns)) ∨ (jj = 1 ∧ Hid (cur = rN ns x ∧ s0 = (idx ns x : Int))) ∨ (jj = 2 ∧ Hid (cur = rN (rN ns x) y ∧ s0 = (idx ns x : Int) ∧ s1 = (idx (rN ns x) y : Int))))) (fun _ j _ => 2 - (intOf j).toNat)
      case atStart => exact ⟨_, 0, ns, 0, 0, rfl, rfl, R0, hb2, .inl ⟨rfl, Lib.hid rfl⟩⟩
      case round =>
        obtain ⟨v, jj, cur, s0, s1, rfl, rfl, R, hb3, hj⟩ := hrel
        have hrl : ∀ l z, (rN l z).length ≤ l.length + 1 := fun l z => by unfold rN; split <;> simp
        have hcl : cur.length ≤ 10002 := by
          rcases hj with ⟨_, h9⟩ | ⟨_, h9⟩ | ⟨_, h9⟩
          · rw [h9.out]; omega
          · rw [h9.out.1]; have := hrl ns x; omega
          · rw [h9.out.1]; have := hrl ns x; have := hrl (rN ns x) y; omega
        clear hrl
        have hsB := hb3.size
        obtain ⟨A3, n3, c3, rfl, hn3, hc3, -, r3, -⟩ := R.o1.form
        have hn30 : n3 ≤ 10002 := by omega
        replace hn3 := Lib.hid hn3
        have f0 := Blk.frozen R.bs 0
        have f1 := Blk.frozen R.bs 1
        have e0 := Blk.cell R.be 0
        have e1 := Blk.cell R.be 1
        have s0c := Blk.cell R.bs 0
        have s1c := Blk.cell R.bs 1
        simp at f0 f1 e0 e1 s0c s1c
        replace hb2 := Lib.hid hb2
        rcases hj with ⟨rfl, hcur⟩ | ⟨rfl, hcur⟩ | ⟨rfl, hcur⟩
        · -- B0
          have ki := Lib.hid (kx.out A3 n3 c3 cur x wr r3 (by omega))
          have hset := Lib.hid fun W' (hW : Same (fun _ => False) wr W') => ((R.same hW).set0 (idx cur x : Int))
          have hff := Lib.hid fun W' (hW : Below wr.heap.size wr W') => (show W'.frozen? ⟨gs, 0, none⟩ = false ∧ W'.cell? ⟨gs, 0, none⟩ = some (.int .i64 s0) from ⟨Blk.frozen (R.bs.below hW R.bs.lt) 0, Blk.cell (R.bs.below hW R.bs.lt) 0⟩)
          clear f0 f1 s0c s1c
          go_wp2_with fail
          (with_reducible refine (ki.out).mono ?_)
          rintro e w5 ⟨rfl, hb5⟩
          obtain ⟨g0, g1⟩ := hff.out w5 hb5
          have R5 := hset.out w5 (Same.of_below hb5 (Nat.le_refl _) _)
          have hb6 := (hb3.trans (hb5.mono hsB)).setCell (p := ⟨gs, 0, none⟩) R.lb.1 (.int .i64 (idx cur x : Int))
          have hs6 := hb6.size
          have hs6' : w.heap.size ≤ w5.heap.size := by simpa using hs6
          have gl := Blk.cell R5.bs 0
          have e0 := Blk.cell R5.be 0
          have e1 := Blk.cell R5.be 1
          simp at gl e0 e1
          clear ki hset hff R r3
          by_cases hq : idx cur x = n3
          · have q1 : ((idx cur x : Int) == (n3 : Int)) = true := by rw [hq]; simp
            have hrn : Hid (rN cur x = cur ++ [x]) := Lib.hid (by unfold rN; rw [if_pos (by rw [hq]; exact hn3.out)])
            replace hq := Lib.hid hq
            have R6 := R5.same ((Same.refl _ _).alloc (.cells #[.int .i64 x] 3))
            go_wp2_with (at_builtin; (refine wpList_push_keep (H := w5.heap.size) tyI (y := x) (by rfl) (.tmp 44) (.tmp 48) (by rfl) (by rfl) (by rfl) R6.o1 (RS.blk (xs := [x]) (Blk.new' _ _ _ (by simp)) rfl rfl) (by unfold maxLen; omega) (by omega) (by simp; omega) ?_); intro v7 w7 ho7 hg7 hv7)
            have R7 := R6.push ho7 hg7 hv7
            have hb7 := (hb6.alloc hs6 (.cells #[.int .i64 x] 3)).grown hg7 (by simp; omega) (fun q hq => (R6.o1.block_lt q hq).1)
            go_roundw
            case rel => exact ⟨_, 1, _, _, _, rfl, by rfl, R7, hb7, .inr (.inl ⟨rfl, Lib.hid ⟨by rw [← hrn.out, hcur.out], by rw [hcur.out]⟩⟩)⟩
            case measure => simp [intOf]
          · have q1 : ((idx cur x : Int) == (n3 : Int)) = false := by simp; omega
            have hrn : Hid (rN cur x = cur) := Lib.hid (by unfold rN; rw [if_neg (by have := hn3.out; omega)])
            replace hq := Lib.hid hq
            go_wp2_with fail
            go_roundw
            case rel => exact ⟨_, 1, cur, _, _, rfl, by rfl, R5, hb6, .inr (.inl ⟨rfl, Lib.hid ⟨by rw [← hrn.out, hcur.out], by rw [hcur.out]⟩⟩)⟩
            case measure => simp [intOf]
          -- E0
        · -- B1
          have ki := Lib.hid (kx.out A3 n3 c3 cur y wr r3 (by omega))
          have hset := Lib.hid fun W' (hW : Same (fun _ => False) wr W') => ((R.same hW).set1 (idx cur y : Int))
          have hff := Lib.hid fun W' (hW : Below wr.heap.size wr W') => (show W'.frozen? ⟨gs, 1, none⟩ = false ∧ W'.cell? ⟨gs, 1, none⟩ = some (.int .i64 s1) from ⟨Blk.frozen (R.bs.below hW R.bs.lt) 1, Blk.cell (R.bs.below hW R.bs.lt) 1⟩)
          clear f0 f1 s0c s1c
          go_wp2_with fail
          (with_reducible refine (ki.out).mono ?_)
          rintro e w5 ⟨rfl, hb5⟩
          obtain ⟨g0, g1⟩ := hff.out w5 hb5
          have R5 := hset.out w5 (Same.of_below hb5 (Nat.le_refl _) _)
          have hb6 := (hb3.trans (hb5.mono hsB)).setCell (p := ⟨gs, 1, none⟩) R.lb.1 (.int .i64 (idx cur y : Int))
          have hs6 := hb6.size
          have hs6' : w.heap.size ≤ w5.heap.size := by simpa using hs6
          have gl := Blk.cell R5.bs 1
          have e0 := Blk.cell R5.be 0
          have e1 := Blk.cell R5.be 1
          simp at gl e0 e1
          clear ki hset hff R r3
          by_cases hq : idx cur y = n3
          · have q1 : ((idx cur y : Int) == (n3 : Int)) = true := by rw [hq]; simp
            have hrn : Hid (rN cur y = cur ++ [y]) := Lib.hid (by unfold rN; rw [if_pos (by rw [hq]; exact hn3.out)])
            replace hq := Lib.hid hq
            have R6 := R5.same ((Same.refl _ _).alloc (.cells #[.int .i64 y] 3))
            go_wp2_with (at_builtin; (refine wpList_push_keep (H := w5.heap.size) tyI (y := y) (by rfl) (.tmp 44) (.tmp 48) (by rfl) (by rfl) (by rfl) R6.o1 (RS.blk (xs := [y]) (Blk.new' _ _ _ (by simp)) rfl rfl) (by unfold maxLen; omega) (by omega) (by simp; omega) ?_); intro v7 w7 ho7 hg7 hv7)
            have R7 := R6.push ho7 hg7 hv7
            have hb7 := (hb6.alloc hs6 (.cells #[.int .i64 y] 3)).grown hg7 (by simp; omega) (fun q hq => (R6.o1.block_lt q hq).1)
            go_roundw
            case rel => exact ⟨_, 2, _, _, _, rfl, by rfl, R7, hb7, .inr (.inr ⟨rfl, Lib.hid ⟨by rw [← hcur.out.1, hrn.out], hcur.out.2, by rw [← hcur.out.1]⟩⟩)⟩
            case measure => simp [intOf]
          · have q1 : ((idx cur y : Int) == (n3 : Int)) = false := by simp; omega
            have hrn : Hid (rN cur y = cur) := Lib.hid (by unfold rN; rw [if_neg (by have := hn3.out; omega)])
            replace hq := Lib.hid hq
            go_wp2_with fail
            go_roundw
            case rel => exact ⟨_, 2, cur, _, _, rfl, by rfl, R5, hb6, .inr (.inr ⟨rfl, Lib.hid ⟨by rw [← hcur.out.1, hrn.out], hcur.out.2, by rw [← hcur.out.1]⟩⟩)⟩
            case measure => simp [intOf]
          -- E1
        · -- B2
          obtain ⟨hc0, hc1, hc2⟩ := hcur.out
          have hlm : m.length ≤ 10000 := hn2
          obtain ⟨A4, n4, c4, rfl, hn4, hc4, -, r4, -⟩ := R.o2.form
          replace hn4 := Lib.hid hn4
          have hfin := Lib.hid (show rT (ns, m) (x, y) = (cur, m ++ [(s0, s1)]) from by rw [hc0, hc1, hc2]; rfl)
          have R6 := R.same ((Same.refl (fun _ => False) wr).alloc (.cells #[.int .i64 s0, .int .i64 s1] 34))
          clear hc0 hc1 hc2 hcur f0 f1 e0 e1
          go_wp2_with (at_builtin; (refine wpList_push_keep (H := wr.heap.size) tyS (y := (s0, s1)) (by rfl) (.tmp 50) (.tmp 52) (by rfl) (by rfl) (by rfl) R6.o2 (RS.blk (xs := [(s0, s1)]) (Blk.new' _ _ _ rfl) rfl rfl) (by unfold maxLen; omega) (by omega) (by simp; omega) ?_); intro v7 w7 ho7 hg7 hv7)
          have hS7 := Same.of_grown hg7
          have ho1' := hS7.os_ R6.o1 (fun q hq he => R6.ne q hq he)
          have hb7 := (hb3.alloc hsB (.cells #[.int .i64 s0, .int .i64 s1] 34)).grown hg7 (by simp; omega) (fun q hq => (R6.o2.block_lt q hq).1)
          have hne7 : ∀ q, (Value.slice A3 n3 c3).ownBlock = some q → v7.ownBlock ≠ some q := fun q hq he => by
            rcases hv7 with hv | hv
            · exact R6.ne q hq (hv ▸ he)
            · rw [hv] at he; injection he with he
              have := (R6.o1.block_lt q hq).2; omega
          go_roundw
          case rel => exact ⟨_, _, k + 1, rfl, rfl, by go_num, by omega, by rw [hrO.out, hfin.out]; exact ho1', by rw [hrO.out, hfin.out]; exact ho7, hne7, hb7⟩
          case measure => simp [intOf]; omega
          -- E2
    · obtain rfl : k = n := by omega
      rw [List.take_of_length_le (by rw [hl.out]; exact Nat.le_refl _)] at o2
      clear o1
      obtain ⟨hof1, hof2⟩ := rO_ofR l
      obtain ⟨A4, n4, c4, rfl, hn4, hc4, -, r4, hf4⟩ := o2.form
      replace hn4 := Lib.hid hn4
      have kv1 := Lib.hid (kv.out A4 n4 c4 _ wr r4 hc4)
      replace hof1 := Lib.hid hof1
      replace hof2 := Lib.hid hof2
      generalize (rO (l.map pr)).2 = M at *
      go_wp2_with fail
      (with_reducible refine (kv1.out).mono ?_)
      rintro e w5 ⟨rfl, hb5⟩
      have hb6 := hb.trans (hb5.mono hb.size)
      have r5 := r4.below hb5 (Nat.le_refl _)
      cases hv : vld M with
      | false =>
        have hR := Lib.hid (hof2.out hv)
        go_wp2_with fail
        go_ret2
        exact RetOf.none_ hR hb6
      | true =>
        have hR := Lib.hid (hof1.out hv)
        go_wp2_with fail
        go_ret2
        exact ⟨A4, n4, c4, by rw [hR.out]; rfl, hc4, by rw [hR.out]; exact r5, hb6, hf4⟩
end Go.Proofs.Ytkcmbpokoijglaa
