/- journal: word, written, Append; the reference's Sum, batch, Append. -/
import Derived.Test.YtbaebeackbciaaaJouA
import Derived.Test.YtbaebeackbciaaaEveH
import Derived.Test.YtbaebeackbciaaaJouM
import Derived.Test.YtbaebeackbciaaaGll
set_option linter.unusedVariables false
set_option linter.unusedSimpArgs false
namespace Go.Proofs.Ytbaebeackbciaaa
open Go.RowKit CoEv

set_option maxRecDepth 100000 in
set_option maxHeartbeats 1000000 in
theorem rsum_any (A : Option Addr) (n c : Nat) (xs : List Nat) (w : World) (h : RS BE w A n xs) (hB : Byt xs) (hn : n ≤ 1099511627776) :
    Calls Try.prog 23 #[.slice A n c] w fun e w' => e = .returned (.int .u32 (sum xs : Nat)) ∧ w' = w := by
  have hl := Lib.hid h.len
  go_enter Try.func23, Try.ntmps23
  go_wp2_with fail
  go_loop [3, 4] (fun s i => ∃ (k : Nat), k ≤ n ∧ i = .int .i64 k ∧ s = .int .u32 (sum (xs.take k) : Nat)) (fun _ i => n - (intOf i).toNat)
  case atStart => exact ⟨0, Nat.zero_le _, rfl, rfl⟩
  case round =>
    obtain ⟨k, hk, rfl, rfl⟩ := hrel
    by_cases hlt : k < n
    · obtain ⟨ad, y, rfl, hbl, hy, hcy⟩ := h.byte hlt
      have hy2 := hB.at_ hy.out
      have e1 := Lib.hid (take_fold hy.out)
      have e2 := Lib.hid (stp_walk (sum_lt (xs.take k)) hy2)
      have i2 : (0 : Int) ≤ (k : Int) := Int.natCast_nonneg _
      have i3 : (k : Int) < (n : Int) := by omega
      clear hy
      go_wp2_with fail
      go_round
      case rel =>
        refine ⟨k + 1, by omega, by go_num, ?_⟩
        rw [e1.out, ← e2.out]
      case measure => simp [intOf]; omega
    · obtain rfl : k = n := by omega
      have hf : Hid (sum (xs.take k) = sum xs) := Lib.hid (by rw [← hl.out, List.take_length])
      go_wp2_with fail
      go_ret
      exact ⟨by rw [hf.out]; rfl, rfl⟩

theorem word_cells (s : Nat) (hs : s < 4294967296) : (#[.int .u8 ((s : Int) / 16777216), .int .u8 ((s : Int) / 65536 % 256), .int .u8 ((s : Int) / 256 % 256), .int .u8 ((s : Int) % 256)] : Array Value) = (BE.all (word s)).toArray := by
  simp only [word, BE, El.all, List.flatMap_cons, List.flatMap_nil, List.cons_append, List.nil_append]
  rw [show (s : Int) / 16777216 = ((s / 16777216 % 256 : Nat) : Int) by omega, show (s : Int) / 65536 % 256 = ((s / 65536 % 256 : Nat) : Int) by omega, show (s : Int) / 256 % 256 = ((s / 256 % 256 : Nat) : Int) by omega, show (s : Int) % 256 = ((s % 256 : Nat) : Int) by omega]

set_option maxHeartbeats 1000000 in
theorem jword_any (s : Nat) (w : World) (hs : s < 4294967296) : Calls Try.prog 41 #[.int .u32 s] w fun e w' => e = .returned (.slice (some ⟨w.heap.size, 0, none⟩) 4 4) ∧ w' = w.alloc (.cells (BE.all (word s)).toArray 5) := by
  have hc := Lib.hid (word_cells s hs)
  go_enter Try.func41, Try.ntmps41
  go_wp2_with fail
  go_ret
  exact ⟨rfl, by rw [← hc.out]⟩
theorem OS.blk {α : Type} {E : El α} {w : World} {B g n : Nat} {t : TypeId} {cs : Array Value} {xs : List α} (h : Blk w g t cs) (hcs : cs = (E.all xs).toArray) (hn : n = xs.length) (hB : B ≤ g) (hm : n ≤ maxLen) : OS E t w B (.slice (some ⟨g, 0, none⟩) n n) xs := by
  subst hn
  refine ⟨E.all_length xs, .inr ⟨g, _, cs, rfl, hB, h, Nat.le_refl _, hm, ?_, ?_⟩⟩
  · rw [hcs]; simp [E.all_length]
  · rw [hcs]; simp [← E.all_length]
/-- What written and Append return. -/
def wrL (n : Nat) (l : List Ev) : List Nat := if wrE n l = 0 then btc l else []
theorem head_cells (l : List Ev) (h : l.length ≤ 255) : (#[.int .u8 (l.length : Int), .int .u8 (255 - (l.length : Int))] : Array Value) = (BE.all [l.length % 256, (255 - l.length) % 256]).toArray := by
  simp only [BE, El.all, List.flatMap_cons, List.flatMap_nil, List.cons_append, List.nil_append]
  rw [show ((l.length : Nat) : Int) = ((l.length % 256 : Nat) : Int) by omega, show (255 - ((l.length % 256 : Nat) : Int)) = (((255 - l.length) % 256 : Nat) : Int) by omega]

set_option maxRecDepth 100000 in
set_option maxHeartbeats 4000000 in
theorem jwritten_any (before : Nat) (A : Option Addr) (n c : Nat) (xs : List Ev) (w : World) (h : RS EE w A n xs) (hn : n ≤ 1099511627776) (hbf : before ≤ 1099511627776) :
    Calls Try.prog 31 #[.int .i64 before, .slice A n c] w (RetGE BE w (wrL before xs) (wrE before xs)) := by
  have hl := Lib.hid h.len
  have hway : (decide (255 < (n : Int)) = true ∧ wrE before xs = 3) ∨ (decide (255 < (n : Int)) = false ∧ decide (1048576 < (before : Int) + 10 * (n : Int) + 6) = true ∧ wrE before xs = 3) ∨
      (decide (255 < (n : Int)) = false ∧ decide (1048576 < (before : Int) + 10 * (n : Int) + 6) = false ∧ ((n : Int) == 0) = true ∧ wrE before xs = 13) ∨
      (decide (255 < (n : Int)) = false ∧ decide (1048576 < (before : Int) + 10 * (n : Int) + 6) = false ∧ ((n : Int) == 0) = false ∧ wrE before xs = chks xs) := by
    unfold wrE
    rw [hl.out]
    simp only [decide_eq_true_eq, decide_eq_false_iff_not, beq_iff_eq, beq_eq_false_iff_ne]
    by_cases h1 : 255 < n ∨ 1048576 < before + 10 * n + 6
    · rw [if_pos h1]; omega
    · rw [if_neg h1]
      by_cases h2 : n = 0
      · rw [if_pos h2]; omega
      · rw [if_neg h2]
        exact .inr (.inr (.inr ⟨by omega, by omega, by omega, rfl⟩))
  have hlim : wrE before xs = 0 → n ≤ 255 := by
    unfold wrE; rw [hl.out]; split <;> omega
  have hL : ∀ z, wrE before xs = z → z ≠ 0 → wrL before xs = [] := fun z hz h0 => by unfold wrL; rw [if_neg (by rw [hz]; exact h0)]
  have hL0 : wrE before xs = 0 → wrL before xs = btc xs := fun hz => by unfold wrL; rw [if_pos hz]
  generalize wrE before xs = Z at *
  generalize wrL before xs = ZL at *
  have ke := fun w h => eencode_any A n c xs w h hn
  rcases hway with ⟨q1, rfl⟩ | ⟨q1, q2, rfl⟩ | ⟨q1, q2, q3, rfl⟩ | ⟨q1, q2, q3, rfl⟩
  · obtain rfl := hL 3 rfl (by omega)
    clear hL hL0 ke hlim
    go_enter Try.func31, Try.ntmps31
    go_wp2_with fail
    refine bodyPost_ret (v := .tuple #[.slice none 0 0, .int .i64 3]) (by simp [results, Try.results31, go_sem]) rfl ?_
    exact RetGE.nil_ (Below.refl _ _)
  · obtain rfl := hL 3 rfl (by omega)
    clear hL hL0 ke hlim
    go_enter Try.func31, Try.ntmps31
    go_wp2_with fail
    refine bodyPost_ret (v := .tuple #[.slice none 0 0, .int .i64 3]) (by simp [results, Try.results31, go_sem]) rfl ?_
    exact RetGE.nil_ (Below.refl _ _)
  · obtain rfl := hL 13 rfl (by omega)
    clear hL hL0 ke hlim
    go_enter Try.func31, Try.ntmps31
    go_wp2_with fail
    refine bodyPost_ret (v := .tuple #[.slice none 0 0, .int .i64 13]) (by simp [results, Try.results31, go_sem]) rfl ?_
    exact RetGE.nil_ (Below.refl _ _)
  · by_cases hz : chks xs = 0
    · obtain rfl := hL0 hz
      have hn2 := hlim hz
      have hee : encE xs = encs xs := by unfold encE; rw [if_pos hz]
      rw [hee, hz] at ke
      rw [hz]
      have hc1 := Lib.hid (head_cells xs (by rw [hl.out]; exact hn2))
      rw [hl.out] at hc1
      have hel : (encs xs).length = n * 10 := by rw [encs_len, hl.out]
      replace hel := Lib.hid hel
      have u1 : IntKind.u8.wrap (n : Int) = (n : Int) := by rw [IntKind.wrap_u8']; omega
      have u2 : IntKind.u8.wrap (255 - (n : Int)) = 255 - (n : Int) := by rw [IntKind.wrap_u8']; omega
      replace ke := Lib.hid ke
      clear hL hL0 hlim hz hee
      go_enter Try.func31, Try.ntmps31
      go_wp2_with fail
      (with_reducible refine (ke.out _ h).mono ?_)
      rintro e w1 ⟨A1, n1, c1, rfl, hc11, hr1, hb1, hf1⟩
      obtain rfl : n1 = n * 10 := by rw [← hr1.len]; exact hel.out
      have hs := hb1.size
      go_wp2_with (at_builtin; refine wpList_catG tyB rfl _ _ rfl rfl rfl (OS.blk (Blk.new w1 5 _) hc1.out rfl (Nat.le_refl _) (by unfold maxLen; omega)) (hr1.alloc _) (by unfold maxLen; simp; omega) (by simp; omega) (by simp) ?_; intro v2 w2 ho2 hb2 hg2)
      replace ho2 : OS BE 5 w2 w1.heap.size v2 (pre xs) := by
        have : pre xs = [n % 256, (255 - n) % 256] ++ encs xs := by unfold pre; rw [hl.out]
        rw [this]; exact ho2
      have hb3 : Below w.heap.size w w2 := (hb1.alloc hs (.cells #[.int .u8 (n : Int), .int .u8 (255 - (n : Int))] 5)).trans (hb2.mono hs)
      have hs2 : w1.heap.size ≤ w2.heap.size := by have := hb2.size; simp at this; omega
      obtain ⟨A2, n2, c2, rfl, hn2', hc2, _, hr2, hf2⟩ := ho2.form
      have hpl : (pre xs).length = 2 + 10 * n := by rw [pre_len, hl.out]
      rw [hpl] at hn2'
      subst hn2'
      have ks := Lib.hid fun w h => jsum_any A2 (2 + 10 * n) c2 (pre xs) w h (pre_byt xs) (by omega)
      have kw := Lib.hid fun w => jword_any (sum (pre xs)) w (sum_lt _)
      replace hpl := Lib.hid hpl
      clear hb2 hg2 hb1 hr1 ke hf1 hc11
      go_wp2_with fail
      (with_reducible refine (ks.out _ hr2).mono ?_); rintro e w3 ⟨rfl, rfl⟩
      go_wp2_with fail
      (with_reducible refine (kw.out _).mono ?_); rintro e w4 ⟨rfl, rfl⟩
      go_wp2_with (at_builtin; (refine wpList_pushG tyB (zs := word (sum (pre xs))) rfl rfl rfl _ _ rfl rfl rfl rfl ho2 (by unfold maxLen; rw [hpl.out, word_len]; omega) (by rw [hpl.out, word_len]; omega) hs2 ?_); intro v4 w4 ho4 hb4 hg4)
      refine bodyPost_ret (v := .tuple #[v4, .int .i64 0]) (by simp [results, Try.results31, go_sem]) rfl ?_
      exact RetGE.own ho4 (hb3.trans (hb4.mono hs)) hs
    · have hzL := hL _ rfl hz
      subst hzL
      have hzb : (chks xs != 0) = true := by simpa using hz
      have hee : encE xs = [] := by unfold encE; rw [if_neg hz]
      rw [hee] at ke
      replace hz := Lib.hid hz
      clear hL hL0 hlim hee
      generalize chks xs = C at *
      replace ke := Lib.hid ke
      go_enter Try.func31, Try.ntmps31
      go_wp2_with fail
      (with_reducible refine (ke.out _ h).mono ?_)
      rintro e w1 ⟨A1, n1, c1, rfl, hc11, hr1, hb1, hf1⟩
      clear hr1 hf1 hc11
      go_wp2_with fail
      refine bodyPost_ret (v := .tuple #[.slice none 0 0, .int .i64 C]) (by simp [results, Try.results31, go_sem]) rfl ?_
      exact RetGE.nil_ hb1
end Go.Proofs.Ytbaebeackbciaaa
