/- The reference's Ending and Instances. -/
import Derived.Test.YtkcmbpokoijglaaMobF
set_option linter.unusedVariables false
set_option linter.unusedSimpArgs false
namespace CoMot
/-- Does it end with the last tick? -/
def lastP (n : Nat) (a : List Nat) : Bool := decide (a.getLast? = some (n - 1))
theorem take_filt {L : List (List Nat)} {k : Nat} {a : List Nat} {n : Nat} (h : L[k]? = some a) : ((L.take (k + 1)).filter (lastP n)).length = ((L.take k).filter (lastP n)).length + if lastP n a = true then 1 else 0 := by
  rw [List.take_add_one, h, List.filter_append, List.length_append]
  congr 1
  cases h1 : lastP n a <;> simp [h1]
theorem fnd_good {l : List Tick} {w : Int} {M : List Step} (hw : 0 ≤ w) (hl : ∀ y ∈ l, 0 ≤ y.t) : ∀ a ∈ fnd l w M M.length [], a.length = M.length ∧ ∀ i ∈ a, i < l.length := by
  intro a ha
  rw [fnd_inst] at ha
  obtain ⟨p, hp, rfl⟩ := List.mem_map.1 ha
  have := (mem_inst hw hl p).1 hp
  exact ⟨this.1, this.2.1.1⟩
end CoMot
namespace Go.Proofs.Ytkcmbpokoijglaa
open Go.RowKit CoMot

set_option maxRecDepth 100000 in
set_option maxHeartbeats 4000000 in
theorem rending_any (A B : Option Addr) (n c m d : Nat) (l : List Tick) (s : List Step) (v : Int) (w : World) (h : RS TE w A n l) (h' : RS SE w B m s) (hn : n ≤ 12) (hmd : m ≤ d) :
    Calls Try.prog 29 #[.slice A n c, .slice B m d, .int .i64 v] w fun r w' => r = .returned (.tuple #[.int .i64 (endR l s v), .int .i64 (chkA l s v)]) ∧ Below w.heap.size w w' := by
  have kf := rfault_any A B n c m d l s v w h h' (by omega) hmd
  by_cases e1 : chkA l s v = 0
  · rw [e1] at kf
    obtain ⟨f1, f2, f3⟩ := chkA_zero e1
    obtain ⟨t1, t2, t3, _⟩ := chkL_zero f1
    obtain ⟨v1, v2⟩ := vld_len f2
    have hl := h.len
    have hl' := h'.len
    have hR : Hid (endR l s v = (((fnd l v s s.length []).filter (lastP n)).length : Int)) := Lib.hid (by unfold endR; rw [if_pos e1, endc_fnd, hl]; rfl)
    have kd := Lib.hid fun w h h' => rfind0_any A B n c m d l s v w h h' hn e1
    have hrow : Hid (∀ a ∈ fnd l v s s.length [], a.length = m ∧ ∀ i ∈ a, i < n) := Lib.hid fun a ha => by
      have := fnd_good f3.1 (fun y hy => (t2 y hy).1) a ha
      rw [hl', hl] at this; exact this
    have hfew : (fnd l v s s.length []).length ≤ 4096 := fnd_few (by omega)
    have hm1 : 1 ≤ m := by omega
    have hm4 : m ≤ 4 := by omega
    generalize fnd l v s s.length [] = FL at *
    replace kf := Lib.hid kf
    have hE := Lib.hid e1
    clear e1 t1 t2 t3 v1 v2 f1 f2 f3 hl hl'
    go_enter Try.func29, Try.ntmps29
    go_wp2_with fail
    (with_reducible refine (kf.out).mono ?_); rintro e w1 ⟨rfl, hb1⟩
    go_wp2_with fail
    (with_reducible refine (kd.out _ (h.below hb1 (Nat.le_refl _)) (h'.below hb1 (Nat.le_refl _))).mono ?_); rintro e w2 ⟨A', k, c', rfl, hk, hr, hb2⟩
    have hb := hb1.trans (hb2.mono hb1.size)
    have hs2 := hb.size
    have hlen := hr.len
    have hk4 : k ≤ 4096 := by omega
    replace hlen := Lib.hid hlen
    clear hb1 hb2 kd kf
    go_wp2_with fail
    go_loopw [9, 11] (fun o i wr => ∃ q : Nat, q ≤ k ∧ o = .int .i64 (((FL.take q).filter (lastP n)).length : Int) ∧ i = .int .i64 (q : Int) ∧ Below w2.heap.size w2 wr) (fun _ i _ => k - (intOf i).toNat)
    case atStart => exact ⟨0, Nat.zero_le _, rfl, rfl, Below.refl _ _⟩
    case round =>
      obtain ⟨q, hq, rfl, rfl, hb3⟩ := hrel
      by_cases hlt : q < k
      · obtain ⟨ad, A7, k7, c7, xs, rfl, hcA, hy, hkc7, hrx, hbl⟩ := (hr.below hb3 (Nat.le_refl _)).get hlt
        obtain ⟨g1, g2⟩ := hrow.out xs (List.mem_of_getElem? hy.out)
        obtain rfl : k7 = m := by rw [← hrx.len]; exact g1
        obtain ⟨bd, x, rfl, hbl2, hx, hcx⟩ := hrx.nat (show k7 - 1 < k7 by omega)
        have hxn := g2 x (List.mem_of_getElem? hx.out)
        have hlast : xs.getLast? = some x := by rw [List.getLast?_eq_getElem?, g1]; exact hx.out
        have htf := take_filt (n := n) hy.out
        have hsmall : ((FL.take q).filter (lastP n)).length ≤ 4096 := Nat.le_trans (List.length_filter_le _ _) (by rw [List.length_take]; omega)
        have i2 : (0 : Int) ≤ (q : Int) := Int.natCast_nonneg _
        have i3 : (q : Int) < (k : Int) := Int.ofNat_lt.2 hlt
        have w1 : wrap64 ((k7 : Int) - 1) = ((k7 - 1 : Nat) : Int) := wrap_dec (by omega) (by omega)
        have w2 : wrap64 ((n : Int) - 1) = ((n - 1 : Nat) : Int) := wrap_dec (by omega) (by omega)
        have j2 : (0 : Int) ≤ ((k7 - 1 : Nat) : Int) := Int.natCast_nonneg _
        have j3 : ((k7 - 1 : Nat) : Int) < (k7 : Int) := Int.ofNat_lt.2 (by omega)
        by_cases hd : x = n - 1
        · have hp : lastP n xs = true := by unfold lastP; rw [hlast, hd]; simp
          rw [if_pos hp] at htf
          have hb5 : ((x : Int) == ((n - 1 : Nat) : Int)) = true := by rw [hd]; simp
          have w3 : wrap64 ((((FL.take q).filter (lastP n)).length : Int) + 1) = ((((FL.take q).filter (lastP n)).length + 1 : Nat) : Int) := wrap_inc (by omega)
          replace htf := Lib.hid htf
          replace hlast := Lib.hid hlast
          replace hd := Lib.hid hd
          replace g1 := Lib.hid g1
          clear hp hy hx g2 hsmall
          go_wp2_with fail
          go_roundw
          case rel => exact ⟨q + 1, by omega, by rw [htf.out]; go_num, by go_num, hb3⟩
          case measure => simp [intOf]; omega
        · have hp : ¬ lastP n xs = true := by unfold lastP; rw [hlast]; simp; omega
          rw [if_neg hp] at htf
          have hb5 : ((x : Int) == ((n - 1 : Nat) : Int)) = false := by simp; omega
          replace htf := Lib.hid htf
          replace hlast := Lib.hid hlast
          replace hd := Lib.hid hd
          replace g1 := Lib.hid g1
          clear hp hy hx g2 hsmall
          go_wp2_with fail
          go_roundw
          case rel => exact ⟨q + 1, by omega, by rw [htf.out]; rfl, by go_num, hb3⟩
          case measure => simp [intOf]; omega
      · obtain rfl : q = k := by omega
        rw [List.take_of_length_le (by rw [hlen.out]; exact Nat.le_refl _)]
        have hbb := hb.trans (hb3.mono hs2)
        go_wp2_with fail
        go_ret2
        exact ⟨by rw [hR.out, hE.out]; rfl, hbb⟩
  · have hR : Hid (endR l s v = 0) := Lib.hid (by unfold endR; rw [if_neg e1])
    have q : (chkA l s v != 0) = true := by simpa using e1
    replace e1 := Lib.hid e1
    replace kf := Lib.hid kf
    go_enter Try.func29, Try.ntmps29
    go_wp2_with fail
    (with_reducible refine (kf.out).mono ?_); rintro e w1 ⟨rfl, hb1⟩
    go_wp2_with fail
    go_ret2
    exact ⟨by rw [hR.out]; rfl, hb1⟩
set_option maxRecDepth 100000 in
set_option maxHeartbeats 4000000 in
theorem rinstances_any (A B : Option Addr) (n c m d : Nat) (l : List Tick) (s : List Step) (v most : Int) (w : World) (h : RS TE w A n l) (h' : RS SE w B m s) (hn : n ≤ 12) (hmd : m ≤ d) :
    Calls Try.prog 30 #[.slice A n c, .slice B m d, .int .i64 v, .int .i64 most] w (RetIn w (insL l s v most) (insE l s v most)) := by
  have kf := rfault_any A B n c m d l s v w h h' (by omega) hmd
  by_cases e1 : chkA l s v = 0
  · rw [e1] at kf
    replace kf := Lib.hid kf
    by_cases h0 : most < 0
    · have hR : Hid (insE l s v most = 1) := Lib.hid (by unfold insE; rw [if_pos e1, if_pos (.inl h0)])
      have hL : Hid (insL l s v most = []) := Lib.hid (by unfold insL; rw [if_neg (by rw [hR.out]; decide)])
      have d1 : decide (most < 0) = true := decide_eq_true h0
      rw [hR.out, hL.out]
      replace e1 := Lib.hid e1
      go_enter Try.func30, Try.ntmps30
      go_wp2_with fail
      (with_reducible refine (kf.out).mono ?_); rintro e w1 ⟨rfl, hb1⟩
      go_wp2_with fail
      go_ret2
      exact ⟨none, 0, 0, rfl, Nat.le_refl _, RL.none_, hb1⟩
    · have d1 : decide (most < 0) = false := decide_eq_false h0
      by_cases h4 : 4096 < most
      · have hR : Hid (insE l s v most = 1) := Lib.hid (by unfold insE; rw [if_pos e1, if_pos (.inr h4)])
        have hL : Hid (insL l s v most = []) := Lib.hid (by unfold insL; rw [if_neg (by rw [hR.out]; decide)])
        have d2 : decide (4096 < most) = true := decide_eq_true h4
        rw [hR.out, hL.out]
        replace e1 := Lib.hid e1
        go_enter Try.func30, Try.ntmps30
        go_wp2_with fail
        (with_reducible refine (kf.out).mono ?_); rintro e w1 ⟨rfl, hb1⟩
        go_wp2_with fail
        go_ret2
        exact ⟨none, 0, 0, rfl, Nat.le_refl _, RL.none_, hb1⟩
      · have d2 : decide (4096 < most) = false := decide_eq_false h4
        have kd := Lib.hid fun w h h' => rfind0_any A B n c m d l s v w h h' hn e1
        have hf : (fnd l v s s.length []) = (inst l v s).map (·.1) := fnd_inst _ _ _
        have hfl : (fnd l v s s.length []).length = (inst l v s).length := by rw [hf, List.length_map]
        by_cases h5 : most < ((fnd l v s s.length []).length : Int)
        · have hR : Hid (insE l s v most = 3) := Lib.hid (by unfold insE; rw [if_pos e1, if_neg (by omega), if_pos (by omega)])
          have hL : Hid (insL l s v most = []) := Lib.hid (by unfold insL; rw [if_neg (by rw [hR.out]; decide)])
          rw [hR.out, hL.out]
          generalize fnd l v s s.length [] = FL at *
          replace e1 := Lib.hid e1
          clear hf hfl
          replace h5 := Lib.hid h5
          go_enter Try.func30, Try.ntmps30
          go_wp2_with fail
          (with_reducible refine (kf.out).mono ?_); rintro e w1 ⟨rfl, hb1⟩
          go_wp2_with fail
          (with_reducible refine (kd.out _ (h.below hb1 (Nat.le_refl _)) (h'.below hb1 (Nat.le_refl _))).mono ?_); rintro e w2 ⟨A', k, c', rfl, hk, hr, hb2⟩
          have hb := hb1.trans (hb2.mono hb1.size)
          have h6 : most < (k : Int) := by have h7 := h5.out; have h8 := hr.len; omega
          go_wp2_with fail
          go_ret2
          exact ⟨none, 0, 0, rfl, Nat.le_refl _, RL.none_, hb⟩
        · have hR : Hid (insE l s v most = 0) := Lib.hid (by unfold insE; rw [if_pos e1, if_neg (by omega), if_neg (by omega)])
          have hL : Hid (insL l s v most = fnd l v s s.length []) := Lib.hid (by unfold insL; rw [if_pos hR.out, hf])
          rw [hR.out, hL.out]
          generalize fnd l v s s.length [] = FL at *
          replace e1 := Lib.hid e1
          clear hf hfl
          replace h5 := Lib.hid h5
          go_enter Try.func30, Try.ntmps30
          go_wp2_with fail
          (with_reducible refine (kf.out).mono ?_); rintro e w1 ⟨rfl, hb1⟩
          go_wp2_with fail
          (with_reducible refine (kd.out _ (h.below hb1 (Nat.le_refl _)) (h'.below hb1 (Nat.le_refl _))).mono ?_); rintro e w2 ⟨A', k, c', rfl, hk, hr, hb2⟩
          have hb := hb1.trans (hb2.mono hb1.size)
          have h6 : ¬ most < (k : Int) := by have h7 := h5.out; have h8 := hr.len; omega
          go_wp2_with fail
          go_ret2
          exact ⟨A', k, c', rfl, hk, hr, hb⟩
  · have hR : Hid (insE l s v most = chkA l s v) := Lib.hid (by unfold insE; rw [if_neg e1])
    have hL : Hid (insL l s v most = []) := Lib.hid (by unfold insL; rw [if_neg (by rw [hR.out]; exact e1)])
    have q : (chkA l s v != 0) = true := by simpa using e1
    rw [hR.out, hL.out]
    replace e1 := Lib.hid e1
    replace kf := Lib.hid kf
    go_enter Try.func30, Try.ntmps30
    go_wp2_with fail
    (with_reducible refine (kf.out).mono ?_); rintro e w1 ⟨rfl, hb1⟩
    go_wp2_with fail
    go_ret2
    exact ⟨none, 0, 0, rfl, Nat.le_refl _, RL.none_, hb1⟩
end Go.Proofs.Ytkcmbpokoijglaa
