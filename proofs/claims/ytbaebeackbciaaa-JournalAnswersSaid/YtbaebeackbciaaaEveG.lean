/- Events: the program's Decode. -/
import Derived.Test.YtbaebeackbciaaaEveF
import Derived.Test.YtbaebeackbciaaaEveN
set_option linter.unusedVariables false
set_option linter.unusedSimpArgs false
namespace Go.Proofs.Ytbaebeackbciaaa
open Go.RowKit CoEv

def lenV : Value → Nat | .slice _ n _ => n | _ => 0
theorem tyE : Ty EE 32 55 56 := ⟨Try.underlying32, .agg #[.int .i64 0, .int .i64 0, .int .i64 0, .int .i64 0, .int .i64 0, .int .i64 0, .int .i64 0], by kernel_rfl, rfl⟩

theorem decE_big {b : List Nat} (h : 655360 < b.length) : decE b = 3 ∧ decL b = [] := by
  have h1 : decE b = 3 := by unfold decE; rw [if_pos h]
  exact ⟨h1, by unfold decL; rw [if_neg (by omega)]⟩
theorem decE_odd {b : List Nat} (h : ¬ 655360 < b.length) (h2 : b.length % 10 ≠ 0) : decE b = 4 ∧ decL b = [] := by
  have h1 : decE b = 4 := by unfold decE; rw [if_neg h, if_pos h2]
  exact ⟨h1, by unfold decL; rw [if_neg (by omega)]⟩
theorem decE_none {b : List Nat} (h : ¬ 655360 < b.length) (h2 : raws b = none) : decE b = 4 ∧ decL b = [] := by
  have h1 : decE b = 4 := by unfold decE; rw [if_neg h, h2]; split <;> rfl
  exact ⟨h1, by unfold decL; rw [if_neg (by omega)]⟩
theorem decE_some {b : List Nat} {l : List Ev} (h : ¬ 655360 < b.length) (h2 : raws b = some l) : decE b = chks l ∧ decL b = if chks l = 0 then l else [] := by
  have h0 := raws_len _ _ h2
  have h1 : decE b = chks l := by
    unfold decE; rw [if_neg h, if_neg (by omega), h2]
  refine ⟨h1, ?_⟩
  unfold decL
  rw [h1, h2]

set_option maxRecDepth 100000 in
set_option maxHeartbeats 4000000 in
theorem edecode_any (A : Option Addr) (n c : Nat) (bs : List Nat) (w : World) (h : RS BE w A n bs) (hB : Byt bs) (hn : n ≤ 1099511627776) (hc : n ≤ c) :
    Calls Try.prog 42 #[.slice A n c] w (RetGE EE w (decL bs) (decE bs)) := by
  have hl := Lib.hid h.len
  by_cases hbig : 655360 < n
  · obtain ⟨r1, r2⟩ := decE_big (b := bs) (by rw [hl.out]; exact hbig)
    rw [r1, r2]
    clear r1 r2
    go_enter Try.func42, Try.ntmps42
    go_wp2_with fail
    refine bodyPost_ret (v := .tuple #[.slice none 0 0, .int .i64 3]) (by simp [results, Try.results42, go_sem]) rfl ?_
    exact RetGE.nil_ (Below.refl _ _)
  have hb1 : ¬ (655360 : Int) < (n : Int) := by omega
  by_cases hodd : n % 10 = 0
  · have hm : ((n : Int) % 10 != 0) = false := by simp; omega
    go_enter Try.func42, Try.ntmps42
    go_wp2_with fail
    go_loopw [0, 4] (fun x o wr => ∃ (k : Nat) (l : List Ev) (v : Value) (A' : Option Addr) (c' : Nat), x = .slice A' (n - 10 * k) c' ∧ v = o ∧ 10 * k ≤ n ∧ n - 10 * k ≤ c' ∧ RS BE w A' (n - 10 * k) (bs.drop (10 * k)) ∧ OS EE 55 wr w.heap.size v l ∧ Hid (raws (bs.take (10 * k)) = some l) ∧ Below w.heap.size w wr) (fun x _ _ => lenV x)
    case atStart => exact ⟨0, [], _, A, c, rfl, rfl, by omega, hc, h, OS.nil_, Lib.hid rfl, Below.refl _ _⟩
    case round =>
      obtain ⟨k, l, v, A', c', rfl, rfl, hk, hc', hr, ho, hra, hb⟩ := hrel
      by_cases hlt : 10 * k < n
      · have hdl : 10 ≤ (bs.drop (10 * k)).length := by rw [List.length_drop, hl.out]; omega
        obtain ⟨b0, b1, b2, b3, b4, b5, b6, b7, b8, b9, r, hd⟩ := split10 hdl
        have hnext := raws_next hra.out hd
        have hll := raws_len _ _ hra.out
        rw [List.length_take, hl.out] at hll
        have hhead := (hr.below hb (Nat.le_refl _)).head (k := 10) (by omega)
        have hcut := hr.cut (k := 10) (cap := c') (by omega) hc'
        rw [List.drop_drop] at hcut
        have hbyt := (hB.drop (10 * k)).take 10
        rw [hd] at hhead hbyt
        have ki := fun w h => decoded_any A' c' b0 b1 b2 b3 b4 b5 b6 b7 b8 b9 w h hbyt
        have j1 : (0 : Int) < ((n - 10 * k : Nat) : Int) := by omega
        have j2 : (10 : Int) ≤ (c' : Int) := by omega
        have j3 : (10 : Int) ≤ ((n - 10 * k : Nat) : Int) := by omega
        generalize evOf b0 b1 b2 b3 b4 b5 b6 b7 b8 b9 = ev at *
        generalize formB b0 b9 = F at *
        obtain ⟨k', t, u, v', ww, ll, s⟩ := ev
        rw [show evV ⟨k', t, u, v', ww, ll, s⟩ = .agg #[.int .i64 k', .int .i64 t, .int .i64 u, .int .i64 v', .int .i64 ww, .int .i64 ll, .int .i64 s] from rfl] at ki
        have hs := hb.size
        cases F
        · obtain ⟨r1, r2⟩ := decE_none (b := bs) (by rw [hl.out]; exact hbig) (hnext.2 rfl)
          replace r1 := Lib.hid r1
          replace r2 := Lib.hid r2
          replace ki := Lib.hid ki
          clear hnext hd hcut ho hra
          go_wp2_with fail
          (with_reducible refine (ki.out _ hhead).mono ?_)
          rintro e w1 ⟨rfl, hb2⟩
          go_wp2_with fail
          refine bodyPost_ret (v := .tuple #[.slice none 0 0, .int .i64 4]) (by simp [results, Try.results42, go_sem]) rfl ?_
          rw [r1.out, r2.out]
          exact RetGE.nil_ ((hb.trans (hb2.mono hs)).alloc (Nat.le_trans hs hb2.size) _)
        · have hnx := Lib.hid (hnext.1 rfl)
          replace ki := Lib.hid ki
          clear hnext hd hra
          go_wp2_with fail
          (with_reducible refine (ki.out _ hhead).mono ?_)
          rintro e w1 ⟨rfl, hb2⟩
          replace ho := ho.below hb2 (Nat.le_refl _)
          have hb3 := hb.trans (hb2.mono hs)
          have hs1 := Nat.le_trans hs hb2.size
          clear hb hb2 hhead hr
          go_wp2_with (at_builtin; (refine wpList_push1G tyE (y := ⟨k', t, u, v', ww, ll, s⟩) rfl rfl _ _ rfl rfl rfl (by simp) (ho.alloc _) (by omega) (by omega) (by simp; omega) ?_); intro v1 w2 ho' hb' hg')
          have hb4 := (hb3.alloc hs1 (.cells (evC ⟨k', t, u, v', ww, ll, s⟩) 55)).trans hb'
          have en : n - 10 * (k + 1) = n - 10 * k - 10 := by omega
          have ek : 10 * (k + 1) = 10 * k + 10 := by omega
          clear hg' hb3 hb' ho
          go_roundw
          case rel =>
            refine ⟨k + 1, l ++ [⟨k', t, u, v', ww, ll, s⟩], v1, (if c' = 10 then A' else Option.map (fun x => ⟨x.block, x.off + 10, none⟩) A'), c' - 10, by rw [en], rfl, by omega, by omega, ?_, ho', hnx, hb4⟩
            rw [en, ek]
            exact hcut
          case measure => simp [lenV]; omega
      · obtain hk0 : 10 * k = n := by omega
        have hra' := hra.out
        rw [hk0, ← hl.out, List.take_length] at hra'
        have hll := raws_len _ _ hra'
        rw [hl.out] at hll
        obtain ⟨r1, r2⟩ := decE_some (b := bs) (by rw [hl.out]; exact hbig) hra'
        have j1 : ¬ (0 : Int) < ((n - 10 * k : Nat) : Int) := by omega
        obtain ⟨A1, n1, c1, rfl, hn1, hc1, _, hr1, hf1⟩ := ho.form
        replace hn1 := Lib.hid hn1
        clear ho
        have kc := fun w h => echecked_any A1 n1 c1 l w h (by have := hn1.out; omega)
        by_cases hz : chks l = 0
        · rw [if_pos hz] at r2
          rw [hz] at kc r1
          replace r1 := Lib.hid r1
          replace r2 := Lib.hid r2
          replace kc := Lib.hid kc
          clear hra hra' hz hr
          go_wp2_with fail
          (with_reducible refine (kc.out _ hr1).mono ?_)
          rintro e w1 ⟨rfl, hb2⟩
          go_wp2_with fail
          refine bodyPost_ret (v := .tuple #[.slice A1 n1 c1, .int .i64 0]) (by simp [results, Try.results42, go_sem]) rfl ?_
          rw [r1.out, r2.out]
          exact ⟨A1, n1, c1, rfl, hc1, hr1.below hb2 (Nat.le_refl _), hb.trans (hb2.mono hb.size), hf1⟩
        · rw [if_neg hz] at r2
          have hzb : (chks l != 0) = true := by simpa using hz
          replace hz := Lib.hid hz
          generalize chks l = C at *
          replace r1 := Lib.hid r1
          replace r2 := Lib.hid r2
          replace kc := Lib.hid kc
          clear hra hra' hz hr
          go_wp2_with fail
          (with_reducible refine (kc.out _ hr1).mono ?_)
          rintro e w1 ⟨rfl, hb2⟩
          go_wp2_with fail
          refine bodyPost_ret (v := .tuple #[.slice none 0 0, .int .i64 C]) (by simp [results, Try.results42, go_sem]) rfl ?_
          rw [r1.out, r2.out]
          exact RetGE.nil_ (hb.trans (hb2.mono hb.size))
  · obtain ⟨r1, r2⟩ := decE_odd (b := bs) (by rw [hl.out]; exact hbig) (by rw [hl.out]; exact hodd)
    rw [r1, r2]
    clear r1 r2
    have hm : ((n : Int) % 10 != 0) = true := by simp; omega
    go_enter Try.func42, Try.ntmps42
    go_wp2_with fail
    refine bodyPost_ret (v := .tuple #[.slice none 0 0, .int .i64 4]) (by simp [results, Try.results42, go_sem]) rfl ?_
    exact RetGE.nil_ (Below.refl _ _)
end Go.Proofs.Ytbaebeackbciaaa
