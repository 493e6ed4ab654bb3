/- The reference's Recover. -/
import Derived.Test.YtbaebeackbciaaaJoaB
import Derived.Test.YtbaebeackbciaaaJouK
set_option linter.unusedVariables false
set_option linter.unusedSimpArgs false
namespace Go.Proofs.Ytbaebeackbciaaa
open Go.RowKit CoEv

set_option maxRecDepth 100000 in
set_option maxHeartbeats 4000000 in
theorem rrecover_any (A : Option Addr) (n c : Nat) (bs : List Nat) (w : World) (h : RS BE w A n bs) (hB : Byt bs) (hc : n ≤ c) (hn : n ≤ 1099511627776) :
    Calls Try.prog 22 #[.slice A n c] w (RetRc w bs) := by
  have hl := Lib.hid h.len
  have kr := Lib.hid (rread_any A n c bs w h hB hc hn)
  go_enter Try.func22, Try.ntmps22
  go_wp2_with fail
  (with_reducible refine kr.out.mono ?_)
  rintro e w1 ⟨A1, n1, c1, L, k, rfl, hc1, hr1, hrd, hb1, hf1⟩
  have hbd := hrd.bd
  have hn1 := hr1.len
  rw [hl.out] at hbd
  have hkn : k ≤ n := hbd.1
  have hfl : ∀ j, (L.take j).flatten.length ≤ L.flatten.length := flat_le L
  have hLk : L.flatten.length ≤ n := by omega
  have hLn : L.length ≤ n := by omega
  have hn1b : n1 ≤ n := by omega
  have i1 : (k : Int) ≤ (c : Int) := by omega
  have i2 : (0 : Int) ≤ (k : Int) := Int.natCast_nonneg _
  replace hrd := Lib.hid hrd
  replace hn1 := Lib.hid hn1
  replace hfl := Lib.hid hfl
  replace hbd := Lib.hid hbd
  have hs1 := hb1.size
  have hhd := (h.below hb1 (Nat.le_refl _)).head hkn
  go_wp2_with fail
  go_loopw [6, 7] (fun all i wr => ∃ (v : Value) (ii : Nat), v = all ∧ i = .int .i64 ii ∧ ii ≤ n1 ∧ OS EE 55 wr w1.heap.size v (L.take ii).flatten ∧ Below w1.heap.size w1 wr) (fun _ i _ => n1 - (intOf i).toNat)
  case atStart => exact ⟨_, 0, rfl, rfl, Nat.zero_le _, OS.nil_, Below.refl _ _⟩
  case round =>
    obtain ⟨v, ii, rfl, rfl, hik, ho, hb⟩ := hrel
    by_cases hlt : ii < n1
    · obtain ⟨bd, A5, n5, c5, ys, rfl, hcl, hyl, hnc5, hr5, hbl5⟩ := (hr1.below hb (Nat.le_refl _)).get (i := ii) hlt
      have e3 := hr5.len
      have e4 : (L.take (ii + 1)).flatten = (L.take ii).flatten ++ ys := flat_take' hyl.out
      have e5 := hfl.out (ii + 1)
      rw [e4, List.length_append, e3] at e5
      have i3 : (ii : Int) < (n1 : Int) := by omega
      have i5 : (0 : Int) ≤ (ii : Int) := Int.natCast_nonneg _
      have hs := hb.size
      replace e3 := Lib.hid e3
      clear hyl
      go_wp2_with (at_builtin; refine wpList_catG tyE rfl _ _ rfl rfl rfl ho hr5 (by unfold maxLen; omega) (by omega) hs ?_; intro v5 w5 ho5 hb5 hg5)
      rw [← e4] at ho5
      have hb6 := hb.trans hb5
      clear ho hb hb5 hg5 hr5 hcl e4
      go_roundw
      case rel => exact ⟨_, ii + 1, rfl, by go_num, by omega, ho5, hb6⟩
      case measure => simp [intOf]; omega
    · have hii : L.take ii = L := List.take_of_length_le (by have := hn1.out; omega)
      rw [hii] at ho
      clear hii
      obtain ⟨A9, n9, c9, rfl, hn9, hc9, _, hr9, hf9⟩ := ho.form
      replace hn9 := Lib.hid hn9
      have hs := hb.size
      go_wp2_with (at_builtin; refine wpList_catG tyB rfl _ _ rfl rfl rfl (OS.nil_ (E := BE) (B := wr.heap.size)) (hhd.below hb (Nat.le_refl _)) (by unfold maxLen; simp; omega) (by simp; omega) (Nat.le_refl _) ?_; intro v5 w5 ho5 hb5 hg5; rw [List.nil_append] at ho5; obtain ⟨A2, n2, c2, rfl, hn2, hc2, _, hr2, hf2⟩ := ho5.form; replace hn2 := Lib.hid hn2)
      refine bodyPost_ret (v := .tuple #[.slice A9 n9 c9, .slice A2 n2 c2]) (by simp [results, Try.results22, go_sem]) rfl ?_
      exact ⟨A9, n9, c9, A2, n2, c2, L, k, rfl, hc9, hr9.below hb5 (Nat.le_refl _), hc2, hr2, hrd.out, (hb1.trans (hb.mono hs1)).trans (hb5.mono (by omega)), hf9.mono hs1, hf2.mono (by omega)⟩
end Go.Proofs.Ytbaebeackbciaaa
