/- journal.Append; the reference's batch and Append. -/
import Derived.Test.YtbaebeackbciaaaJouB
import Derived.Test.YtbaebeackbciaaaCatA
set_option linter.unusedVariables false
set_option linter.unusedSimpArgs false
namespace Go.Proofs.Ytbaebeackbciaaa
open Go.RowKit CoEv

theorem RL.two {α : Type} {E : El α} {w : World} {g : Nat} {t : TypeId} {A B : Option Addr} {n m c d : Nat} {xs ys : List α} (h : Blk w g t #[.slice A n c, .slice B m d]) (hn : n ≤ c) (hm : m ≤ d) (hx : RS E w A n xs) (hy : RS E w B m ys) :
    RL E w (some ⟨g, 0, none⟩) 2 [xs, ys] := by
  refine ⟨[.slice A n c, .slice B m d], ⟨rfl, fun _ => ⟨_, rfl, h.lt, fun j u hu => ?_⟩⟩, rfl, fun i u zs hu hz => ?_⟩
  · have hadd : (⟨g, 0, none⟩ : Addr).add j = ⟨g, j, none⟩ := by unfold Addr.add; split <;> simp_all
    rw [hadd, Blk.cell h]
    simpa using hu
  · match i, hu, hz with
    | 0, hu, hz => simp at hu hz; subst hu; subst hz; exact ⟨A, n, c, rfl, hn, hx⟩
    | 1, hu, hz => simp at hu hz; subst hu; subst hz; exact ⟨B, m, d, rfl, hm, hy⟩
    | i + 2, hu, hz => simp at hu
/-- What Append returns. -/
def apL (js : List Nat) (l : List Ev) : List Nat := if wrE js.length l = 0 then js ++ btc l else []
theorem wrE_len {n : Nat} {l : List Ev} (h : wrE n l = 0) : l.length ≤ 255 ∧ 0 < l.length ∧ n + 10 * l.length + 6 ≤ 1048576 ∧ chks l = 0 := by
  unfold wrE at h
  split at h
  · omega
  split at h
  · omega
  exact ⟨by omega, by omega, by omega, h⟩

set_option maxRecDepth 100000 in
set_option maxHeartbeats 4000000 in
theorem jappend_any (J : Option Addr) (m d : Nat) (js : List Nat) (A : Option Addr) (n c : Nat) (xs : List Ev) (w : World) (hj : RS BE w J m js) (hmd : m ≤ d) (h : RS EE w A n xs) (hn : n ≤ 1099511627776) (hm : m ≤ 1099511627776) :
    Calls Try.prog 17 #[.slice J m d, .slice A n c] w (RetGE BE w (apL js xs) (wrE js.length xs)) := by
  have hjl := hj.len
  have kw := fun w h => jwritten_any m A n c xs w h hn hm
  by_cases hz : wrE m xs = 0
  · have hv : Hid (apL js xs = js ++ btc xs) := Lib.hid (by unfold apL; rw [hjl, if_pos hz])
    have hb := wrE_len hz
    have he : wrL m xs = btc xs := by unfold wrL; rw [if_pos hz]
    rw [hz, he] at kw
    rw [hjl, hz]
    have hbl := btc_len xs
    have hlen : (js ++ btc xs).length ≤ 1099511627776 := by rw [List.length_append, hjl, hbl]; omega
    replace kw := Lib.hid kw
    have kc := Lib.hid fun (A : Option Addr) (c : Nat) (w : World) (h : RL BE w A 2 [js, btc xs]) => bconcat_any A 2 c [js, btc xs] w h (by omega) (by simpa using hlen)
    have hfl : Hid ([js, btc xs].flatten = js ++ btc xs) := Lib.hid (by simp)
    clear hz he hjl
    go_enter Try.func17, Try.ntmps17
    go_wp2_with fail
    (with_reducible refine (kw.out _ h).mono ?_)
    rintro e w1 ⟨A1, n1, c1, rfl, hc1, hr1, hb1, hf1⟩
    have hj1 := hj.below hb1 (Nat.le_refl _)
    go_wp2_with fail
    (with_reducible refine (kc.out _ _ _ (RL.two (Blk.new w1 _ _) hmd hc1 (hj1.alloc _) (hr1.alloc _))).mono ?_)
    rintro e w2 ⟨A2, n2, c2, rfl, hc2, hr2, hb2, hf2⟩
    rw [hfl.out] at hr2
    go_wp2_with fail
    refine bodyPost_ret (v := .tuple #[.slice A2 n2 c2, .int .i64 0]) (by simp [results, Try.results17, go_sem]) rfl ?_
    rw [hv.out]
    have hs := hb1.size
    exact ⟨A2, n2, c2, rfl, hc2, hr2, (hb1.alloc hs _).trans (hb2.mono (by simp; omega)), hf2.mono (by simp; omega)⟩
  · have hv : Hid (apL js xs = []) := Lib.hid (by unfold apL; rw [hjl, if_neg hz])
    rw [hjl]
    have hzb : (wrE m xs != 0) = true := by simpa using hz
    replace hz := Lib.hid hz
    generalize wrE m xs = C at *
    generalize wrL m xs = CL at *
    replace kw := Lib.hid kw
    clear hjl
    go_enter Try.func17, Try.ntmps17
    go_wp2_with fail
    (with_reducible refine (kw.out _ h).mono ?_)
    rintro e w1 ⟨A1, n1, c1, rfl, hc1, hr1, hb1, hf1⟩
    go_wp2_with fail
    refine bodyPost_ret (v := .tuple #[.slice none 0 0, .int .i64 C]) (by simp [results, Try.results17, go_sem]) rfl ?_
    rw [hv.out]
    exact RetGE.nil_ hb1

/-- What the reference's batch returns. -/
def btL (l : List Ev) : List Nat := if chks l = 0 then btc l else []
set_option maxRecDepth 100000 in
set_option maxHeartbeats 4000000 in
theorem rbatch_any (A : Option Addr) (n c : Nat) (xs : List Ev) (w : World) (h : RS EE w A n xs) (hn : n ≤ 255) :
    Calls Try.prog 36 #[.slice A n c] w (RetGE BE w (btL xs) (chks xs)) := by
  have hl := Lib.hid h.len
  have ke := fun w h => rencode4_any A n c xs w h (by omega)
  by_cases hz : chks xs = 0
  · have hv : Hid (btL xs = btc xs) := Lib.hid (by unfold btL; rw [if_pos hz])
    have hee : encE xs = encs xs := by unfold encE; rw [if_pos hz]
    rw [hee, hz] at ke
    rw [hz]
    have hc1 := Lib.hid (head_cells xs (by rw [hl.out]; exact hn))
    rw [hl.out] at hc1
    have hel : (encs xs).length = n * 10 := by rw [encs_len, hl.out]
    replace hel := Lib.hid hel
    have u1 : IntKind.u8.wrap (n : Int) = (n : Int) := by rw [IntKind.wrap_u8']; omega
    have u2 : IntKind.u8.wrap (255 - (n : Int)) = 255 - (n : Int) := by rw [IntKind.wrap_u8']; omega
    replace ke := Lib.hid ke
    clear hz hee
    go_enter Try.func36, Try.ntmps36
    go_wp2_with fail
    (with_reducible refine (ke.out _ h).mono ?_)
    rintro e w1 ⟨A1, n1, c1, rfl, hc11, hr1, hb1, hf1⟩
    obtain rfl : n1 = n * 10 := by rw [← hr1.len]; exact hel.out
    have hs := hb1.size
    go_wp2_with (at_builtin; refine wpList_catG tyB rfl _ _ rfl rfl rfl (OS.blk (Blk.new w1 5 _) hc1.out rfl (Nat.le_refl _) (by unfold maxLen; omega)) (hr1.alloc _) (by unfold maxLen; simp; omega) (by simp; omega) (by simp) ?_; intro v2 w2 ho2 hb2 hg2)
    replace ho2 : OS BE 5 w2 w1.heap.size v2 (pre xs) := by
      have : pre xs = [n % 256, (255 - n) % 256] ++ encs xs := by unfold pre; rw [hl.out]
      rw [this]; exact ho2
    have hb3 : Below w.heap.size w w2 := (hb1.alloc hs (.cells #[.int .u8 (n : Int), .int .u8 (255 - (n : Int))] 5)).trans (hb2.mono hs)
    have hs2 : w1.heap.size ≤ w2.heap.size := by have := hb2.size; simp at this; omega
    obtain ⟨A2, n2, c2, rfl, hn2', hc2, _, hr2, hf2⟩ := ho2.form
    have hpl : (pre xs).length = 2 + 10 * n := by rw [pre_len, hl.out]
    rw [hpl] at hn2'
    subst hn2'
    have ks := Lib.hid fun w h => rsum_any A2 (2 + 10 * n) c2 (pre xs) w h (pre_byt xs) (by omega)
    have hwc := Lib.hid (word_cells (sum (pre xs)) (sum_lt _))
    have hsl := sum_lt (pre xs)
    have hbt : Hid (btc xs = pre xs ++ word (sum (pre xs))) := Lib.hid rfl
    replace hpl := Lib.hid hpl
    clear hb2 hg2 hb1 hr1 ke hf1 hc11
    generalize sum (pre xs) = S at *
    go_wp2_with fail
    (with_reducible refine (ks.out _ hr2).mono ?_); rintro e w3 ⟨rfl, rfl⟩
    go_wp2_with (at_builtin; (refine wpList_pushG tyB (zs := word S) hwc.out rfl rfl _ _ rfl rfl rfl rfl ho2 (by unfold maxLen; rw [hpl.out, word_len]; omega) (by rw [hpl.out, word_len]; omega) hs2 ?_); intro v4 w4 ho4 hb4 hg4)
    refine bodyPost_ret (v := .tuple #[v4, .int .i64 0]) (by simp [results, Try.results36, go_sem]) rfl ?_
    rw [hv.out, hbt.out]
    exact RetGE.own ho4 (hb3.trans (hb4.mono hs)) hs
  · have hv : Hid (btL xs = []) := Lib.hid (by unfold btL; rw [if_neg hz])
    have hzb : (chks xs != 0) = true := by simpa using hz
    have hee : encE xs = [] := by unfold encE; rw [if_neg hz]
    rw [hee] at ke
    replace hz := Lib.hid hz
    clear hee
    generalize chks xs = C at *
    replace ke := Lib.hid ke
    go_enter Try.func36, Try.ntmps36
    go_wp2_with fail
    (with_reducible refine (ke.out _ h).mono ?_)
    rintro e w1 ⟨A1, n1, c1, rfl, hc11, hr1, hb1, hf1⟩
    clear hr1 hf1 hc11
    go_wp2_with fail
    refine bodyPost_ret (v := .tuple #[.slice none 0 0, .int .i64 C]) (by simp [results, Try.results36, go_sem]) rfl ?_
    rw [hv.out]
    exact RetGE.nil_ hb1

def rapL (js : List Nat) (l : List Ev) : List Nat := if rwE js.length l = 0 then js ++ btc l else []
set_option maxRecDepth 100000 in
set_option maxHeartbeats 4000000 in
theorem rappend_any (J : Option Addr) (m d : Nat) (js : List Nat) (A : Option Addr) (n c : Nat) (xs : List Ev) (w : World) (hj : RS BE w J m js) (h : RS EE w A n xs) (hn : n ≤ 1099511627776) (hm : m ≤ 1099511627776) :
    Calls Try.prog 25 #[.slice J m d, .slice A n c] w (RetGE BE w (rapL js xs) (rwE js.length xs)) := by
  have hl := Lib.hid h.len
  have hjl := hj.len
  have hway : (decide (255 < (n : Int)) = true ∧ rwE m xs = 3) ∨ (decide (255 < (n : Int)) = false ∧ decide (1048576 < (m : Int)) = true ∧ rwE m xs = 3) ∨
      (decide (255 < (n : Int)) = false ∧ decide (1048576 < (m : Int)) = false ∧ decide (0 < (n : Int)) = true ∧ decide (1048576 < (m : Int) + 10 * (n : Int) + 6) = true ∧ rwE m xs = 3) ∨
      (decide (255 < (n : Int)) = false ∧ decide (1048576 < (m : Int)) = false ∧ decide (0 < (n : Int)) = true ∧ decide (1048576 < (m : Int) + 10 * (n : Int) + 6) = false ∧ ((n : Int) == 0) = false ∧ rwE m xs = chks xs) ∨
      (decide (255 < (n : Int)) = false ∧ decide (1048576 < (m : Int)) = false ∧ decide (0 < (n : Int)) = false ∧ ((n : Int) == 0) = true ∧ rwE m xs = 13) := by
    unfold rwE
    rw [hl.out]
    simp only [decide_eq_true_eq, decide_eq_false_iff_not, beq_iff_eq, beq_eq_false_iff_ne]
    by_cases h1 : (255 < n ∨ 1048576 < m) ∨ 0 < n ∧ 1048576 < m + 10 * n + 6
    · rw [if_pos h1]; omega
    · rw [if_neg h1]
      by_cases h2 : n = 0
      · rw [if_pos h2]; omega
      · rw [if_neg h2]
        exact .inr (.inr (.inr (.inl ⟨by omega, by omega, by omega, by omega, by omega, rfl⟩)))
  have hlim : rwE m xs = 0 → m ≤ 1048576 ∧ n ≤ 255 := by
    unfold rwE; rw [hl.out]; intro hh; split at hh
    · omega
    · omega
  have hL : ∀ z, rwE m xs = z → z ≠ 0 → rapL js xs = [] := fun z hz h0 => by unfold rapL; rw [hjl, if_neg (by rw [hz]; exact h0)]
  have hL0 : rwE m xs = 0 → rapL js xs = js ++ btc xs := fun hz => by unfold rapL; rw [hjl, if_pos hz]
  rw [hjl]
  generalize rwE m xs = Z at *
  generalize rapL js xs = ZL at *
  rcases hway with ⟨q1, rfl⟩ | ⟨q1, q2, rfl⟩ | ⟨q1, q2, q3, q4, rfl⟩ | ⟨q1, q2, q3, q4, q5, rfl⟩ | ⟨q1, q2, q3, q4, rfl⟩
  case inr.inr.inr.inl =>
    have hn2 : n ≤ 255 := by simp at q1; omega
    have q6 : ¬ n = 0 := by simp at q5; omega
    have q7 : (n == 0) = false := by simpa using q6
    have q8 : ¬ (n : Int) = 0 := by omega
    have q9 : (0 : Int) < (n : Int) := by omega
    have kb := fun w h => rbatch_any A n c xs w h hn2
    by_cases hz : chks xs = 0
    · obtain rfl := hL0 hz
      have hm2 := (hlim hz).1
      have hbb : btL xs = btc xs := by unfold btL; rw [if_pos hz]
      rw [hbb, hz] at kb
      rw [hz]
      have hbl : (btc xs).length = 6 + 10 * n := by rw [btc_len, hl.out]
      replace hbl := Lib.hid hbl
      have hjl' := Lib.hid hjl
      replace kb := Lib.hid kb
      clear hL hL0 hlim hz hbb hjl
      go_enter Try.func25, Try.ntmps25
      go_wp2_with fail
      (with_reducible refine (kb.out _ h).mono ?_)
      rintro e w1 ⟨A1, n1, c1, rfl, hc11, hr1, hb1, hf1⟩
      have hn1 : n1 = 6 + 10 * n := by rw [← hr1.len]; exact hbl.out
      subst hn1
      have hj1 := hj.below hb1 (Nat.le_refl _)
      have hs := hb1.size
      go_wp2_with (at_builtin; first | (refine wpList_catG tyB rfl _ _ rfl rfl rfl (OS.nil_ (E := BE) (w := w1) (B := w1.heap.size)) hj1 (by unfold maxLen; simp; omega) (by simp; omega) (Nat.le_refl _) ?_; intro v2 w2 ho2 hb2 hg2; replace hr1 := hr1.below hb2 (Nat.le_refl _); have hs2 := hb2.size) | (refine wpList_catG tyB rfl _ _ rfl rfl rfl ho2 hr1 (by unfold maxLen; rw [List.nil_append, hjl'.out]; omega) (by rw [List.nil_append, hjl'.out]; omega) hs2 ?_; intro v3 w3 ho3 hb3 hg3))
      refine bodyPost_ret (v := .tuple #[v3, .int .i64 0]) (by simp [results, Try.results25, go_sem]) rfl ?_
      rw [List.nil_append] at ho3
      exact RetGE.own ho3 ((hb1.trans (hb2.mono hs)).trans (hb3.mono hs)) hs
    · have hzL := hL _ rfl hz
      subst hzL
      have hzb : (chks xs != 0) = true := by simpa using hz
      replace hz := Lib.hid hz
      clear hL hL0 hlim
      generalize chks xs = C at *
      replace kb := Lib.hid kb
      go_enter Try.func25, Try.ntmps25
      go_wp2_with fail
      (with_reducible refine (kb.out _ h).mono ?_)
      rintro e w1 ⟨A1, n1, c1, rfl, hc11, hr1, hb1, hf1⟩
      clear hr1 hf1 hc11
      go_wp2_with fail
      refine bodyPost_ret (v := .tuple #[.slice none 0 0, .int .i64 C]) (by simp [results, Try.results25, go_sem]) rfl ?_
      exact RetGE.nil_ hb1
  case inr.inr.inr.inr =>
    obtain rfl := hL 13 rfl (by decide)
    obtain rfl : n = 0 := by simp at q4; omega
    clear hL hL0 hlim
    go_enter Try.func25, Try.ntmps25
    go_wp2_with fail
    refine bodyPost_ret (v := .tuple #[.slice none 0 0, .int .i64 13]) (by simp [results, Try.results25, go_sem]) rfl ?_
    exact RetGE.nil_ (Below.refl _ _)
  case inr.inr.inl =>
    have q9 : 0 < n := by simp at q3; omega
    obtain rfl := hL 3 rfl (by decide)
    clear hL hL0 hlim
    go_enter Try.func25, Try.ntmps25
    go_wp2_with fail
    refine bodyPost_ret (v := .tuple #[.slice none 0 0, .int .i64 3]) (by simp [results, Try.results25, go_sem]) rfl ?_
    exact RetGE.nil_ (Below.refl _ _)
  all_goals
    obtain rfl := hL 3 rfl (by decide)
    clear hL hL0 hlim
    go_enter Try.func25, Try.ntmps25
    go_wp2_with fail
    refine bodyPost_ret (v := .tuple #[.slice none 0 0, .int .i64 3]) (by simp [results, Try.results25, go_sem]) rfl ?_
    exact RetGE.nil_ (Below.refl _ _)
end Go.Proofs.Ytbaebeackbciaaa
