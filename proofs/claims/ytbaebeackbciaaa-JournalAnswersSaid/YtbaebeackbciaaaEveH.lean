/- Events: the reference's Decode. -/
import Derived.Test.YtbaebeackbciaaaEveG
set_option linter.unusedVariables false
set_option linter.unusedSimpArgs false
namespace Go.Proofs.Ytbaebeackbciaaa
open Go.RowKit CoEv

theorem form_ways (b0 b9 : Nat) : (decide (1 < (b9 : Int)) = true ∧ formB b0 b9 = false) ∨ (decide (1 < (b9 : Int)) = false ∧ ((b9 : Int) == 1) = false ∧ formB b0 b9 = true) ∨ (decide (1 < (b9 : Int)) = false ∧ ((b9 : Int) == 1) = true ∧ ((b0 : Int) != 1) = true ∧ formB b0 b9 = false) ∨
    (decide (1 < (b9 : Int)) = false ∧ ((b9 : Int) == 1) = true ∧ ((b0 : Int) != 1) = false ∧ formB b0 b9 = true) := by
  unfold formB
  simp only [beq_iff_eq, beq_eq_false_iff_ne, bne_iff_ne, bne_eq_false_iff_eq, decide_eq_true_eq, decide_eq_false_iff_not]
  omega
theorem raws_stop {bs : List Nat} {L l : List Ev} {k : Nat} {e : Ev} (h : raws bs = some L) (h1 : raws (bs.take (10 * (k + 1))) = some (l ++ [e])) (h2 : first l = 0) :
    (chk e ≠ 0 → first L = chk e) ∧ (chk e = 0 → first (l ++ [e]) = 0) := by
  have e1 : first (l ++ [e]) = chk e := by
    rw [first_append, if_pos h2]
    unfold first; split
    · rename_i hz; rw [hz]; rfl
    · rfl
  refine ⟨fun hne => ?_, fun hz => by rw [e1]; exact hz⟩
  have := raws_app _ _ (Nat.le_refl _) _ h1 (bs.drop (10 * (k + 1)))
  rw [List.take_append_drop, h] at this
  cases hr : raws (bs.drop (10 * (k + 1))) with
  | none => rw [hr] at this; cases this
  | some l' =>
    rw [hr] at this
    injection this with this
    rw [this, first_append, e1, if_neg hne]

set_option maxRecDepth 100000 in
set_option maxHeartbeats 8000000 in
theorem rdecode4_any (A : Option Addr) (n c : Nat) (bs : List Nat) (w : World) (h : RS BE w A n bs) (hB : Byt bs) (hn : n ≤ 1099511627776) (hc : n ≤ c) :
    Calls Try.prog 46 #[.slice A n c] w (RetGE EE w (decL bs) (decE bs)) := by
  have hl := Lib.hid h.len
  by_cases hbig : 655360 < n
  · obtain ⟨r1, r2⟩ := decE_big (b := bs) (by rw [hl.out]; exact hbig)
    rw [r1, r2]
    clear r1 r2
    go_enter Try.func46, Try.ntmps46
    go_wp2_with fail
    refine bodyPost_ret (v := .tuple #[.slice none 0 0, .int .i64 3]) (by simp [results, Try.results46, go_sem]) rfl ?_
    exact RetGE.nil_ (Below.refl _ _)
  have hb1 : ¬ (655360 : Int) < (n : Int) := by omega
  by_cases hodd : n % 10 = 0
  · have hm : ((n : Int) % 10 != 0) = false := by simp; omega
    go_enter Try.func46, Try.ntmps46
    go_wp2_with fail
    go_loop [4] (fun i => ∃ (k : Nat) (l : List Ev), i = .int .i64 (10 * (k : Int)) ∧ 10 * k ≤ n ∧ Hid (raws (bs.take (10 * k)) = some l)) (fun i => n - (intOf i).toNat)
    case atStart => exact ⟨0, [], rfl, by omega, Lib.hid rfl⟩
    case round =>
      obtain ⟨k, l, rfl, hk, hra⟩ := hrel
      by_cases hlt : 10 * k < n
      · have hdl : 10 ≤ (bs.drop (10 * k)).length := by rw [List.length_drop, hl.out]; omega
        obtain ⟨b0, b1, b2, b3, b4, b5, b6, b7, b8, b9, r, hd⟩ := split10 hdl
        have hnext := raws_next hra.out hd
        have hcut := (h.cut (k := 10 * k) (cap := c) (by omega) hc).head (k := 10) (by omega)
        rw [hd, if_neg (by omega)] at hcut
        have hbyt := (hB.drop (10 * k))
        rw [hd] at hbyt
        obtain ⟨ad0, hA, hbl0⟩ := h.block_lt (by omega)
        subst hA
        obtain ⟨ad, hA, hbl, c0, c1, c2, c3, c4, c5, c6, c7, c8, c9⟩ := cell10 hcut
        have hA' : ad0.add (10 * k) = ad := by have := Option.some.inj hA; rwa [show 10 * k * BE.size = 10 * k from Nat.mul_one _] at this
        have l0 := hbyt b0 (by simp)
        have l9 := hbyt b9 (by simp)
        have q0 : IntKind.i64.wrap (b0 : Int) = (b0 : Int) := by rw [IntKind.wrap_i64]; omega
        have j1 : 10 * (k : Int) < (n : Int) := by omega
        have j2 : 10 * (k : Int) + 10 ≤ (c : Int) := by omega
        have j3 : (0 : Int) ≤ 10 * (k : Int) := by omega
        have j4 : ¬ c = 10 * k := by omega
        have hw := form_ways b0 b9
        clear hcut hd c1 c2 c3 c4 c5 c6 c7 c8 hbyt hdl
        rcases hw with ⟨p1, p4⟩ | ⟨p1, p2, p4⟩ | ⟨p1, p2, p3, p4⟩ | ⟨p1, p2, p3, p4⟩
        · go_wp2_with fail
          obtain ⟨r1, r2⟩ := decE_none (b := bs) (by rw [hl.out]; exact hbig) (hnext.2 p4)
          refine bodyPost_ret (v := .tuple #[.slice none 0 0, .int .i64 4]) (by simp [results, Try.results46, go_sem]) rfl ?_
          rw [r1, r2]
          exact RetGE.nil_ (Below.refl _ _)
        · have hnx := Lib.hid (hnext.1 p4)
          clear hnext
          go_wp2_with fail
          go_round
          case rel => exact ⟨k + 1, _, by go_num, by omega, hnx⟩
          case measure => simp [intOf]; omega
        · go_wp2_with fail
          obtain ⟨r1, r2⟩ := decE_none (b := bs) (by rw [hl.out]; exact hbig) (hnext.2 p4)
          refine bodyPost_ret (v := .tuple #[.slice none 0 0, .int .i64 4]) (by simp [results, Try.results46, go_sem]) rfl ?_
          rw [r1, r2]
          exact RetGE.nil_ (Below.refl _ _)
        · have hnx := Lib.hid (hnext.1 p4)
          clear hnext
          go_wp2_with fail
          go_round
          case rel => exact ⟨k + 1, _, by go_num, by omega, hnx⟩
          case measure => simp [intOf]; omega
      · have hra' := hra.out
        rw [show 10 * k = n by omega, ← hl.out, List.take_length] at hra'
        have hL := raws_len _ _ hra'
        rw [hl.out] at hL
        obtain ⟨r1, r2⟩ := decE_some (b := bs) (by rw [hl.out]; exact hbig) hra'
        have hch : chks l = first l := by unfold chks; rw [if_neg (by omega)]
        replace hL := Lib.hid hL
        rw [hch] at r1 r2
        have hra' := Lib.hid hra'
        replace r1 := Lib.hid r1
        replace r2 := Lib.hid r2
        have j1 : ¬ 10 * (k : Int) < (n : Int) := by omega
        clear hra hch
        go_wp2_with fail
        go_loopw [6, 7] (fun o i wr => ∃ (k' : Nat) (l1 : List Ev) (v : Value), v = o ∧ i = .int .i64 (10 * (k' : Int)) ∧ 10 * k' ≤ n ∧ OS EE 55 wr w.heap.size v l1 ∧ Hid (raws (bs.take (10 * k')) = some l1) ∧ Hid (first l1 = 0) ∧ Below w.heap.size w wr) (fun _ i _ => n - (intOf i).toNat)
        case atStart => exact ⟨0, [], _, rfl, rfl, by omega, OS.nil_, Lib.hid rfl, Lib.hid rfl, Below.refl _ _⟩
        case round =>
          clear j1
          obtain ⟨m, l1, v, rfl, rfl, hm10, ho, hrm, hfm, hb⟩ := hrel
          by_cases hlt : 10 * m < n
          · have hdl : 10 ≤ (bs.drop (10 * m)).length := by rw [List.length_drop, hl.out]; omega
            obtain ⟨b0, b1, b2, b3, b4, b5, b6, b7, b8, b9, r, hd⟩ := split10 hdl
            have hnext := raws_next hrm.out hd
            have hform : formB b0 b9 = true := by
              cases hf : formB b0 b9
              · have := hnext.2 hf; rw [hra'.out] at this; cases this
              · rfl
            have hnx := hnext.1 hform
            have hstop := raws_stop hra'.out hnx hfm.out
            replace hnx := Lib.hid hnx
            have hcut := ((h.below hb (Nat.le_refl _)).cut (k := 10 * m) (cap := c) (by omega) hc).head (k := 10) (by omega)
            rw [hd, if_neg (by omega)] at hcut
            have hB := (hB.drop (10 * m))
            rw [hd] at hB
            obtain ⟨ad0, hA, hbl0⟩ := h.block_lt (by omega)
            subst hA
            obtain ⟨ad, hA, hbl, c0, c1, c2, c3, c4, c5, c6, c7, c8, c9⟩ := cell10 hcut
            have hA' : ad0.add (10 * m) = ad := by have := Option.some.inj hA; rwa [show 10 * m * BE.size = 10 * m from Nat.mul_one _] at this
            have hbl' : ad.block < w.heap.size := by rw [← hA', block_of_add]; exact hbl0
            have l0 := hB b0 (by simp)
            have l1' := hB b1 (by simp)
            have l2 := hB b2 (by simp)
            have l3 := hB b3 (by simp)
            have l4 := hB b4 (by simp)
            have l5 := hB b5 (by simp)
            have l6 := hB b6 (by simp)
            have l7 := hB b7 (by simp)
            have l8 := hB b8 (by simp)
            have l9 := hB b9 (by simp)
            have q0 : IntKind.i64.wrap (b0 : Int) = (b0 : Int) := by rw [IntKind.wrap_i64]; omega
            have q1 : IntKind.i64.wrap (b1 : Int) = (b1 : Int) := by rw [IntKind.wrap_i64]; omega
            have q2 : IntKind.i64.wrap (b2 : Int) = (b2 : Int) := by rw [IntKind.wrap_i64]; omega
            have q3 : IntKind.i64.wrap (b3 : Int) = (b3 : Int) := by rw [IntKind.wrap_i64]; omega
            have q4 : IntKind.i64.wrap (b4 : Int) = (b4 : Int) := by rw [IntKind.wrap_i64]; omega
            have q5 : IntKind.i64.wrap (b5 : Int) = (b5 : Int) := by rw [IntKind.wrap_i64]; omega
            have q6 : IntKind.i64.wrap (b6 : Int) = (b6 : Int) := by rw [IntKind.wrap_i64]; omega
            have q7 : IntKind.i64.wrap (b7 : Int) = (b7 : Int) := by rw [IntKind.wrap_i64]; omega
            have q8 : IntKind.i64.wrap (b8 : Int) = (b8 : Int) := by rw [IntKind.wrap_i64]; omega
            have q11 : IntKind.i64.wrap ((b1 : Int) * 65536) = (b1 : Int) * 65536 := by rw [IntKind.wrap_i64]; omega
            have q12 : IntKind.i64.wrap ((b2 : Int) * 256) = (b2 : Int) * 256 := by rw [IntKind.wrap_i64]; omega
            have q16 : IntKind.i64.wrap ((b6 : Int) * 256) = (b6 : Int) * 256 := by rw [IntKind.wrap_i64]; omega
            have e1 : bits .or .i64 ((b1 : Int) * 65536) ((b2 : Int) * 256) = (b1 : Int) * 65536 + (b2 : Int) * 256 := by rw [or_16_8 b1 b2 l1' l2]; omega
            have e2 : bits .or .i64 ((b1 : Int) * 65536 + (b2 : Int) * 256) (b3 : Int) = (b1 : Int) * 65536 + (b2 : Int) * 256 + (b3 : Int) := by
              have := or_low8 (b1 * 65536 + b2 * 256) b3 (by omega) (by omega) l3
              rw [show (((b1 * 65536 + b2 * 256 : Nat)) : Int) = (b1 : Int) * 65536 + (b2 : Int) * 256 by omega] at this
              rw [this]; omega
            have e3 : bits .or .i64 ((b6 : Int) * 256) (b7 : Int) = (b6 : Int) * 256 + (b7 : Int) := by rw [or_8 b6 b7 l6 l7]; omega
            have j1 : 10 * (m : Int) < (n : Int) := by omega
            have j2 : 10 * (m : Int) + 10 ≤ (c : Int) := by omega
            have j3 : (0 : Int) ≤ 10 * (m : Int) := by omega
            have j4 : ¬ c = 10 * m := by omega
            have hll := raws_len _ _ hrm.out
            rw [List.length_take, hl.out] at hll
            clear hcut hd hB hdl hnext hA
            have hs := hb.size
            go_upto_region 16 with fail
            go_loud (go_region_held3 (fun w' => w'.cell? ad = some (.int .u8 b0) ∧ w'.cell? ⟨ad.block, ad.off + 1, none⟩ = some (.int .u8 b1) ∧ w'.cell? ⟨ad.block, ad.off + 2, none⟩ = some (.int .u8 b2) ∧ w'.cell? ⟨ad.block, ad.off + 3, none⟩ = some (.int .u8 b3) ∧ w'.cell? ⟨ad.block, ad.off + 4, none⟩ = some (.int .u8 b4) ∧ w'.cell? ⟨ad.block, ad.off + 5, none⟩ = some (.int .u8 b5) ∧ w'.cell? ⟨ad.block, ad.off + 6, none⟩ = some (.int .u8 b6) ∧ w'.cell? ⟨ad.block, ad.off + 7, none⟩ = some (.int .u8 b7) ∧ w'.cell? ⟨ad.block, ad.off + 8, none⟩ = some (.int .u8 b8))
              ((first | exact ⟨c0, c1, c2, c3, c4, c5, c6, c7, c8⟩ | exact ⟨cellA' c0 _, cellA' c1 _, cellA' c2 _, cellA' c3 _, cellA' c4 _, cellA' c5 _, cellA' c6 _, cellA' c7 _, cellA' c8 _⟩))
              (fail))
            have E1 : Blk (wr.alloc (.cells #[.int .i64 b0, .int .i64 ((b1 : Int) * 65536 + (b2 : Int) * 256 + (b3 : Int)), .int .i64 b4, .int .i64 b5, .int .i64 ((b6 : Int) * 256 + (b7 : Int)), .int .i64 b8, .int .i64 0] 55)).drew wr.heap.size 55 #[.int .i64 b0, .int .i64 ((b1 : Int) * 65536 + (b2 : Int) * 256 + (b3 : Int)), .int .i64 b4, .int .i64 b5, .int .i64 ((b6 : Int) * 256 + (b7 : Int)), .int .i64 b8, .int .i64 0] := Blk.new _ _ _
            have hb2 : Below wr.heap.size wr (wr.alloc (.cells #[.int .i64 b0, .int .i64 ((b1 : Int) * 65536 + (b2 : Int) * 256 + (b3 : Int)), .int .i64 b4, .int .i64 b5, .int .i64 ((b6 : Int) * 256 + (b7 : Int)), .int .i64 b8, .int .i64 0] 55)).drew := ((Below.refl _ _).alloc (Nat.le_refl _) _).drew
            replace c9 := (hb2.cell (p := ⟨ad.block, ad.off + 9, none⟩) (Nat.lt_of_lt_of_le hbl' hs)).trans c9
            have hev : evOf b0 b1 b2 b3 b4 b5 b6 b7 b8 b9 = ⟨b0, (b1 : Int) * 65536 + (b2 : Int) * 256 + (b3 : Int), b4, b5, (b6 : Int) * 256 + (b7 : Int), b8, if b0 = 1 then 1 - 2 * (b9 : Int) else 0⟩ := by unfold evOf; congr 1
            generalize evOf b0 b1 b2 b3 b4 b5 b6 b7 b8 b9 = ev at *
            clear c0 c1 c2 c3 c4 c5 c6 c7 c8 q1 q2 q3 q4 q5 q6 q7 q8 q11 q12 q16 e1 e2 e3 hform
            generalize (wr.alloc (.cells #[.int .i64 b0, .int .i64 ((b1 : Int) * 65536 + (b2 : Int) * 256 + (b3 : Int)), .int .i64 b4, .int .i64 b5, .int .i64 ((b6 : Int) * 256 + (b7 : Int)), .int .i64 b8, .int .i64 0] 55)).drew = w1 at *
            have d0 := E1.cell 0
            have d6 := E1.cell 6
            have f6 := E1.frozen 6
            simp at d0 d6
            have q9 : IntKind.i64.wrap (b9 : Int) = (b9 : Int) := by rw [IntKind.wrap_i64]; omega
            have hg := hs
            generalize hgg : wr.heap.size = g at *
            by_cases h1 : b0 = 1
            · have h1b : ((b0 : Int) == 1) = true := by simp; omega
              rw [if_pos h1] at hev
              clear h1
              go_upto_region 19 with fail
              have E2 := E1.set 6 (.int .i64 (1 - 2 * (b9 : Int)))
              simp at E2
              have hb5 := hb2.setCell (p := ⟨g, 6, none⟩) (Nat.le_refl _) (.int .i64 (1 - 2 * (b9 : Int)))
              clear E1 hb2 d0 d6 f6 c9 q9
              generalize w1.setCell ⟨g, 6, none⟩ (.int .i64 (1 - 2 * (b9 : Int))) = w2 at *
              subst hev
              have ke := fun w => rcheck4_any ⟨(b0 : Int), (b1 : Int) * 65536 + (b2 : Int) * 256 + (b3 : Int), (b4 : Int), (b5 : Int), (b6 : Int) * 256 + (b7 : Int), (b8 : Int), 1 - 2 * (b9 : Int)⟩ w
              rw [show evV ⟨(b0 : Int), (b1 : Int) * 65536 + (b2 : Int) * 256 + (b3 : Int), (b4 : Int), (b5 : Int), (b6 : Int) * 256 + (b7 : Int), (b8 : Int), 1 - 2 * (b9 : Int)⟩ = .agg #[.int .i64 ((b0 : Int)), .int .i64 ((b1 : Int) * 65536 + (b2 : Int) * 256 + (b3 : Int)), .int .i64 ((b4 : Int)), .int .i64 ((b5 : Int)), .int .i64 ((b6 : Int) * 256 + (b7 : Int)), .int .i64 ((b8 : Int)), .int .i64 (1 - 2 * (b9 : Int))] from rfl] at ke
              have hE2 := Lib.hid E2
              have e0 := E2.cell 0
              have e1 := E2.cell 1
              have e2 := E2.cell 2
              have e3 := E2.cell 3
              have e4 := E2.cell 4
              have e5 := E2.cell 5
              have e6 := E2.cell 6
              simp at e0 e1 e2 e3 e4 e5 e6
              have hb6 := hb.trans (hb5.mono hs)
              have hs6 := hb6.size
              have hlt2 := E2.lt
              replace ho := ho.below hb5 (by omega)
              generalize hC : chk ⟨(b0 : Int), (b1 : Int) * 65536 + (b2 : Int) * 256 + (b3 : Int), (b4 : Int), (b5 : Int), (b6 : Int) * 256 + (b7 : Int), (b8 : Int), 1 - 2 * (b9 : Int)⟩ = C at *
              by_cases hz : C = 0
              · subst hz
                have hfn := Lib.hid (hstop.2 rfl)
                replace ke := Lib.hid ke
                replace hC := Lib.hid hC
                clear hstop hb hb5
                go_wp2_with fail
                (with_reducible refine (ke.out _).mono ?_)
                rintro e w3 ⟨rfl, hb7⟩
                replace ho := ho.below hb7 (by simp)
                have E3 := hE2.out.below hb7 hlt2
                clear e0 e1 e2 e3 e4 e5 e6 hE2 E2
                have e0 := E3.cell 0
                have e1 := E3.cell 1
                have e2 := E3.cell 2
                have e3 := E3.cell 3
                have e4 := E3.cell 4
                have e5 := E3.cell 5
                have e6 := E3.cell 6
                simp at e0 e1 e2 e3 e4 e5 e6
                have hb8 := hb6.trans (hb7.mono hs6)
                have hs8 := hb8.size
                clear hb6 hb7 hs6
                go_wp2_with (at_builtin; (refine wpList_push1G tyE (y := ⟨(b0 : Int), (b1 : Int) * 65536 + (b2 : Int) * 256 + (b3 : Int), (b4 : Int), (b5 : Int), (b6 : Int) * 256 + (b7 : Int), (b8 : Int), 1 - 2 * (b9 : Int)⟩) rfl rfl _ _ rfl rfl rfl (by simp) ho (by omega) (by omega) hs8 ?_); intro v1 w4 ho' hb' hg')
                have hb9 := hb8.trans hb'
                clear hg' hb8 hb' ho E3 e0 e1 e2 e3 e4 e5 e6
                go_roundw
                case rel => exact ⟨m + 1, _, _, rfl, by go_num, by omega, ho', hnx, hfn, hb9⟩
                case measure => simp [intOf]; omega
              · have hfn := Lib.hid (hstop.1 hz)
                have hzb : (C != 0) = true := by simpa using hz
                have r3 : Hid (decL bs = []) := Lib.hid (by rw [r2.out, hfn.out, if_neg hz])
                have r4 : Hid (decE bs = C) := Lib.hid (by rw [r1.out, hfn.out])
                replace hz := Lib.hid hz
                replace ke := Lib.hid ke
                replace hC := Lib.hid hC
                clear hstop hb hb5
                go_wp2_with fail
                (with_reducible refine (ke.out _).mono ?_)
                rintro e w3 ⟨rfl, hb7⟩
                go_wp2_with fail
                refine bodyPost_ret (v := .tuple #[.slice none 0 0, .int .i64 C]) (by simp [results, Try.results46, go_sem]) rfl ?_
                rw [r3.out, r4.out]
                exact RetGE.nil_ (hb6.trans (hb7.mono hs6))
            · have h1b : ((b0 : Int) == 1) = false := by simp; omega
              rw [if_neg h1] at hev
              clear h1
              go_upto_region 19 with fail
              have E2 := E1
              have hb5 := hb2
              clear E1 hb2 d0 d6 f6 c9 q9
              subst hev
              have ke := fun w => rcheck4_any ⟨(b0 : Int), (b1 : Int) * 65536 + (b2 : Int) * 256 + (b3 : Int), (b4 : Int), (b5 : Int), (b6 : Int) * 256 + (b7 : Int), (b8 : Int), 0⟩ w
              rw [show evV ⟨(b0 : Int), (b1 : Int) * 65536 + (b2 : Int) * 256 + (b3 : Int), (b4 : Int), (b5 : Int), (b6 : Int) * 256 + (b7 : Int), (b8 : Int), 0⟩ = .agg #[.int .i64 ((b0 : Int)), .int .i64 ((b1 : Int) * 65536 + (b2 : Int) * 256 + (b3 : Int)), .int .i64 ((b4 : Int)), .int .i64 ((b5 : Int)), .int .i64 ((b6 : Int) * 256 + (b7 : Int)), .int .i64 ((b8 : Int)), .int .i64 (0)] from rfl] at ke
              have hE2 := Lib.hid E2
              have e0 := E2.cell 0
              have e1 := E2.cell 1
              have e2 := E2.cell 2
              have e3 := E2.cell 3
              have e4 := E2.cell 4
              have e5 := E2.cell 5
              have e6 := E2.cell 6
              simp at e0 e1 e2 e3 e4 e5 e6
              have hb6 := hb.trans (hb5.mono hs)
              have hs6 := hb6.size
              have hlt2 := E2.lt
              replace ho := ho.below hb5 (by omega)
              generalize hC : chk ⟨(b0 : Int), (b1 : Int) * 65536 + (b2 : Int) * 256 + (b3 : Int), (b4 : Int), (b5 : Int), (b6 : Int) * 256 + (b7 : Int), (b8 : Int), 0⟩ = C at *
              by_cases hz : C = 0
              · subst hz
                have hfn := Lib.hid (hstop.2 rfl)
                replace ke := Lib.hid ke
                replace hC := Lib.hid hC
                clear hstop hb hb5
                go_wp2_with fail
                (with_reducible refine (ke.out _).mono ?_)
                rintro e w3 ⟨rfl, hb7⟩
                replace ho := ho.below hb7 (by simp)
                have E3 := hE2.out.below hb7 hlt2
                clear e0 e1 e2 e3 e4 e5 e6 hE2 E2
                have e0 := E3.cell 0
                have e1 := E3.cell 1
                have e2 := E3.cell 2
                have e3 := E3.cell 3
                have e4 := E3.cell 4
                have e5 := E3.cell 5
                have e6 := E3.cell 6
                simp at e0 e1 e2 e3 e4 e5 e6
                have hb8 := hb6.trans (hb7.mono hs6)
                have hs8 := hb8.size
                clear hb6 hb7 hs6
                go_wp2_with (at_builtin; (refine wpList_push1G tyE (y := ⟨(b0 : Int), (b1 : Int) * 65536 + (b2 : Int) * 256 + (b3 : Int), (b4 : Int), (b5 : Int), (b6 : Int) * 256 + (b7 : Int), (b8 : Int), 0⟩) rfl rfl _ _ rfl rfl rfl (by simp) ho (by omega) (by omega) hs8 ?_); intro v1 w4 ho' hb' hg')
                have hb9 := hb8.trans hb'
                clear hg' hb8 hb' ho E3 e0 e1 e2 e3 e4 e5 e6
                go_roundw
                case rel => exact ⟨m + 1, _, _, rfl, by go_num, by omega, ho', hnx, hfn, hb9⟩
                case measure => simp [intOf]; omega
              · have hfn := Lib.hid (hstop.1 hz)
                have hzb : (C != 0) = true := by simpa using hz
                have r3 : Hid (decL bs = []) := Lib.hid (by rw [r2.out, hfn.out, if_neg hz])
                have r4 : Hid (decE bs = C) := Lib.hid (by rw [r1.out, hfn.out])
                replace hz := Lib.hid hz
                replace ke := Lib.hid ke
                replace hC := Lib.hid hC
                clear hstop hb hb5
                go_wp2_with fail
                (with_reducible refine (ke.out _).mono ?_)
                rintro e w3 ⟨rfl, hb7⟩
                go_wp2_with fail
                refine bodyPost_ret (v := .tuple #[.slice none 0 0, .int .i64 C]) (by simp [results, Try.results46, go_sem]) rfl ?_
                rw [r3.out, r4.out]
                exact RetGE.nil_ (hb6.trans (hb7.mono hs6))
          · have hm0 : 10 * m = n := by omega
            have hle : l1 = l := by
              have := hrm.out
              rw [hm0, ← hl.out, List.take_length, hra'.out] at this
              injection this with this; exact this.symm
            subst hle
            have hfz := hfm.out
            rw [hfz] at r1 r2
            rw [if_pos rfl] at r2
            have j1 : ¬ 10 * (m : Int) < (n : Int) := by omega
            obtain ⟨A1, n1, c1, rfl, hn1, hc1, _, hr1, hf1⟩ := ho.form
            clear hn1
            go_wp2_with fail
            refine bodyPost_ret (v := .tuple #[.slice A1 n1 c1, .int .i64 0]) (by simp [results, Try.results46, go_sem]) rfl ?_
            rw [r1.out, r2.out]
            exact ⟨A1, n1, c1, rfl, hc1, hr1, hb, hf1⟩
  · obtain ⟨r1, r2⟩ := decE_odd (b := bs) (by rw [hl.out]; exact hbig) (by rw [hl.out]; exact hodd)
    rw [r1, r2]
    clear r1 r2
    have hm : ((n : Int) % 10 != 0) = true := by simp; omega
    go_enter Try.func46, Try.ntmps46
    go_wp2_with fail
    refine bodyPost_ret (v := .tuple #[.slice none 0 0, .int .i64 4]) (by simp [results, Try.results46, go_sem]) rfl ?_
    exact RetGE.nil_ (Below.refl _ _)
end Go.Proofs.Ytbaebeackbciaaa
