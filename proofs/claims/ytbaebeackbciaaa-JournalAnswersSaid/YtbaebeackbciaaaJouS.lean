/- The law JournalSum. -/
import Derived.Test.YtbaebeackbciaaaJouH
import Derived.Test.YtbaebeackbciaaaByo
set_option linter.unusedVariables false
set_option linter.unusedSimpArgs false
namespace CoEv
theorem sum_law {a b : List Nat} {i by' x : Nat} (ha : Byt a) (hb : Byt b) (hx : a[i]? = some x) (hby : by' < 256) (h0 : 0 < by') :
    ((sum (a.set i (x ^^^ by')) : Int) == (sum a : Int)) = false ∧ ((sum (a.set i (x ^^^ by') ++ b) : Int) == (sum (a ++ b) : Int)) = false := by
  have hxb := ha.at_ hx
  have hxor : x ^^^ by' < 256 := Nat.xor_lt_two_pow (n := 8) hxb hby
  have hne : x ≠ x ^^^ by' := by
    intro e
    have := xor_inj' (s := x) (x := 0) (y := by') (by rw [Nat.xor_zero]; exact e)
    omega
  have h1 := sum_ne ha hx hxor hne
  refine ⟨?_, ?_⟩
  · rw [beq_eq_false_iff_ne]; intro e; exact h1 (by exact_mod_cast e)
  · rw [beq_eq_false_iff_ne]; intro e
    have e' : sum (a.set i (x ^^^ by') ++ b) = sum (a ++ b) := by exact_mod_cast e
    rw [sum_append, sum_append] at e'
    exact h1 (fold_inj hb (sum_lt _) (sum_lt _) e')
theorem byt7 : Byt [7] := fun z hz => by simp at hz; omega
theorem set_byt {a : List Nat} {i y : Nat} (ha : Byt a) (hy : y < 256) : Byt (a.set i y) := by
  intro x hx
  rcases List.mem_or_eq_of_mem_set hx with h | h
  · exact ha x h
  · omega
theorem sum_seven {a b : List Nat} : ((sum a : Int) == (sum b : Int)) = false ∨ (((sum a : Int) == (sum b : Int)) = true ∧ ((sum (a ++ [7]) : Int) != (sum (b ++ [7]) : Int)) = false) := by
  by_cases h : sum a = sum b
  · right
    have e : sum (a ++ [7]) = sum (b ++ [7]) := by rw [sum_append, sum_append, h]
    rw [e, h]
    exact ⟨beq_self_eq_true _, bne_self_eq_false _⟩
  · left
    rw [beq_eq_false_iff_ne]; intro e; exact h (by exact_mod_cast e)
end CoEv
namespace Go.Proofs.Ytbaebeackbciaaa
open Go.RowKit CoEv

set_option maxRecDepth 100000 in
set_option maxHeartbeats 8000000 in
theorem lawSum_any (A : Option Addr) (n c : Nat) (xs : List Nat) (B : Option Addr) (m d : Nat) (ys : List Nat) (at' by' : Nat) (w : World) (h : RS BE w A n xs) (h' : RS BE w B m ys) (hx : Byt xs) (hy : Byt ys)
    (hn : n ≤ 140737488355328) (hm : m ≤ 140737488355328) (hat : at' < 65536) (hby : by' < 256) :
    Calls Try.prog 5 #[.slice A n c, .slice B m d, .int .u16 at', .int .u8 by'] w fun e w' => e = .returned (.bool true) ∧ Below w.heap.size w w' := by
  have kaw := Lib.hid fun w => awake35_any w
  have hway : (decide (300 < (n : Int)) = true) ∨ (decide (300 < (n : Int)) = false ∧ decide (300 < (m : Int)) = true) ∨ (decide (300 < (n : Int)) = false ∧ decide (300 < (m : Int)) = false) := by
    simp only [decide_eq_true_eq, decide_eq_false_iff_not]; omega
  rcases hway with q1 | ⟨q1, q2⟩ | ⟨q1, q2⟩
  · go_enter Try.func5, Try.ntmps5
    go_wp2_with fail
    (with_reducible refine (kaw.out _).mono ?_); rintro e w1 ⟨rfl, hb1⟩
    go_wp2_with fail
    go_ret
    exact ⟨rfl, hb1⟩
  · go_enter Try.func5, Try.ntmps5
    go_wp2_with fail
    (with_reducible refine (kaw.out _).mono ?_); rintro e w1 ⟨rfl, hb1⟩
    go_wp2_with fail
    go_ret
    exact ⟨rfl, hb1⟩
  · have hn3 : n ≤ 300 := by simp at q1; omega
    have hm3 : m ≤ 300 := by simp at q2; omega
    have hl := h.len
    have hl' := h'.len
    have ks := Lib.hid fun (A : Option Addr) (n c : Nat) xs w h hB hn => jsum_any A n c xs w h hB hn
    have hsv := sum_seven (a := xs) (b := ys)
    by_cases hpos : 0 < n ∧ 0 < by'
    · obtain ⟨hn0, hb0⟩ := hpos
      have p1 : decide (0 < (n : Int)) = true := by simp; omega
      have p2 : decide (0 < (by' : Int)) = true := by simp; omega
      have hi : at' % n < n := Nat.mod_lt _ hn0
      obtain ⟨x, hxi⟩ : ∃ x, xs[at' % n]? = some x := ⟨_, List.getElem?_eq_getElem (by omega)⟩
      have hlaw := sum_law hx hy hxi hby hb0
      have hxb := hx.at_ hxi
      have hxor := u8_xor_nat x by' hxb hby
      have hxlt : x ^^^ by' < 256 := Nat.xor_lt_two_pow (n := 8) hxb hby
      replace hxi := Lib.hid hxi
      have q3 : IntKind.i64.wrap (at' : Int) = (at' : Int) := by rw [IntKind.wrap_i64]; omega
      have hmod : (at' : Int).tmod (n : Int) = ((at' % n : Nat) : Int) := by rw [Int.tmod_eq_emod_of_nonneg (by omega)]; rfl
      go_enter Try.func5, Try.ntmps5
      go_wp2_with (at_builtin; refine wpList_catG tyB rfl _ _ rfl rfl rfl (OS.nil_ (E := BE) (B := w.heap.size)) h (by unfold maxLen; simp; omega) (by simp; omega) (Nat.le_refl _) ?_; intro v2 w2 ho2 hb2 hg2; rw [List.nil_append] at ho2; obtain ⟨g, cap, hv2, hcap, hmx, hgB, hgl, hfz, hcl, hst⟩ := ho2.bytes (by omega); subst hv2; have hc1 := hcl _ _ hxi.out; have hf1 := hfz (at' % n); rw [hl] at hcap; clear hcl hfz; replace hst := Lib.hid hst; rw [hl])
      have ho3 := hst.out (at' % n) (x ^^^ by')
      have hb3 := hb2.setCell (p := ⟨g, at' % n, none⟩) hgB (.int .u8 ((x ^^^ by' : Nat) : Int))
      clear hst hc1 hf1 ho2 hb2 hg2
      generalize w2.setCell ⟨g, at' % n, none⟩ (.int .u8 ((x ^^^ by' : Nat) : Int)) = w3 at *
      have hcb := set_byt (i := at' % n) hx hxlt
      have hcl : (xs.set (at' % n) (x ^^^ by')).length = n := by rw [List.length_set, hl]
      generalize xs.set (at' % n) (x ^^^ by') = cs at *
      obtain ⟨hlaw1, hlaw2⟩ := hlaw
      have hr3 := (ho3.rs (by rw [hcl, hl])).1
      rw [hl] at hr3 ho3
      (with_reducible refine (ks.out _ _ _ _ _ hr3 hcb (by omega)).mono ?_); rintro e w3' ⟨rfl, hQ⟩; obtain rfl := hQ.symm
      go_wp2_with fail
      (with_reducible refine (ks.out _ _ _ _ _ (h.below hb3 (Nat.le_refl _)) hx (by omega)).mono ?_); rintro e w4 ⟨rfl, hQ⟩; obtain rfl := hQ.symm
      go_wp2_with (at_builtin; refine wpList_catH tyB (by rfl) _ _ rfl rfl rfl ho3 (h'.below hb3 (Nat.le_refl _)) (by unfold maxLen; omega) (by omega) hb3.size ?_; intro v5 w5 ho5 hb5 hg5; have BW5 := hb3.trans hb5; obtain ⟨A5, n5, c5, hv5, hn5, _, _, hr5, _⟩ := ho5.form; subst hv5; rw [List.length_append, hcl, hl'] at hn5; replace hn5 := Lib.hid hn5)
      (with_reducible refine (ks.out _ _ _ _ _ hr5 (hcb.append hy) (by have := hn5.out; omega)).mono ?_); rintro e w5' ⟨rfl, hQ⟩; obtain rfl := hQ.symm
      go_wp2_with (at_builtin; first
        | (refine wpList_catH tyB (by rfl) _ _ rfl rfl rfl (OS.nil_ (E := BE) (B := w.heap.size)) (h.below BW5 (Nat.le_refl _)) (by unfold maxLen; simp; omega) (by simp; omega) BW5.size ?_; intro v6 w6 ho6 hb6 hg6; rw [List.nil_append] at ho6; have BW6 := BW5.trans hb6)
        | (refine wpList_catH tyB (by rfl) _ _ rfl rfl rfl ho6 (h'.below BW6 (Nat.le_refl _)) (by unfold maxLen; omega) (by omega) BW6.size ?_; intro v7 w7 ho7 hb7 hg7; have BW := BW6.trans hb7; obtain ⟨A7, n7, c7, hv7, hn7, _, _, hr7, _⟩ := ho7.form; subst hv7; rw [List.length_append, hl, hl'] at hn7; replace hn7 := Lib.hid hn7))
      (with_reducible refine (ks.out _ _ _ _ _ hr7 (hx.append hy) (by have := hn7.out; omega)).mono ?_); rintro e w7' ⟨rfl, hQ⟩; obtain rfl := hQ.symm
      go_wp2_with fail
      (with_reducible refine (ks.out _ _ _ _ _ (h.below BW (Nat.le_refl _)) hx (by omega)).mono ?_); rintro e wa ⟨rfl, hQ⟩; obtain rfl := hQ.symm
      go_wp2_with fail
      (with_reducible refine (ks.out _ _ _ _ _ (h'.below BW (Nat.le_refl _)) hy (by omega)).mono ?_); rintro e wb ⟨rfl, hQ⟩; obtain rfl := hQ.symm
      rcases hsv with q5 | ⟨q5, q6⟩
      · go_wp2_with fail
        (with_reducible refine (kaw.out _).mono ?_); rintro e w9 ⟨rfl, hb9⟩
        go_wp2_with fail
        go_ret
        exact ⟨rfl, BW.trans (hb9.mono BW.size)⟩
      · have hsz := BW.size
        go_wp2_with (at_builtin; first
          | (refine wpList_catH tyB (by rfl) _ _ rfl rfl rfl (OS.nil_ (E := BE) (B := w.heap.size)) (h.below BW (Nat.le_refl _)) (by unfold maxLen; simp; omega) (by simp; omega) hsz ?_; intro v5 w5 ho5 hb5 hg5; rw [List.nil_append] at ho5; have BW5 := BW.trans hb5)
          | go_loud (refine wpList_push1H tyB (y := 7) rfl (by rfl) _ _ rfl rfl rfl rfl ho5 (by omega) (by omega) BW5.size ?_; intro v6 w6 ho6 hb6 hg6; have BW6 := BW5.trans hb6; obtain ⟨A6, n6, c6, hv6, hn6, _, _, hr6, _⟩ := ho6.form; subst hv6; rw [List.length_append, hl] at hn6; replace hn6 := Lib.hid hn6))
        (with_reducible refine (ks.out _ _ _ _ _ hr6 (hx.append byt7) (by have := hn6.out; simp at this; omega)).mono ?_); rintro e wc ⟨rfl, hQ⟩; obtain rfl := hQ.symm
        go_wp2_with (at_builtin; first
          | (refine wpList_catH tyB (by rfl) _ _ rfl rfl rfl (OS.nil_ (E := BE) (B := w.heap.size)) (h'.below BW6 (Nat.le_refl _)) (by unfold maxLen; simp; omega) (by simp; omega) BW6.size ?_; intro v7 w7 ho7 hb7 hg7; rw [List.nil_append] at ho7; have BW7 := BW6.trans hb7)
          | (refine wpList_push1H tyB (y := 7) rfl (by rfl) _ _ rfl rfl rfl rfl ho7 (by omega) (by omega) BW7.size ?_; intro v8 w8 ho8 hb8 hg8; have BW8 := BW7.trans hb8; obtain ⟨A8, n8, c8, hv8, hn8, _, _, hr8, _⟩ := ho8.form; subst hv8; rw [List.length_append, hl'] at hn8; replace hn8 := Lib.hid hn8))
        (with_reducible refine (ks.out _ _ _ _ _ hr8 (hy.append byt7) (by have := hn8.out; simp at this; omega)).mono ?_); rintro e wd ⟨rfl, hQ⟩; obtain rfl := hQ.symm
        go_wp2_with fail
        (with_reducible refine (kaw.out _).mono ?_); rintro e w9 ⟨rfl, hb9⟩
        go_wp2_with fail
        go_ret
        exact ⟨rfl, BW8.trans (hb9.mono BW8.size)⟩
    · have hq : ¬ 0 < n ∨ (0 < n ∧ by' = 0) := by omega
      have BW : Below w.heap.size w w := Below.refl _ _
      rcases hq with p1 | ⟨p1, rfl⟩
      · go_enter Try.func5, Try.ntmps5
        go_wp2_with fail
        (with_reducible refine (ks.out _ _ _ _ _ (h.below BW (Nat.le_refl _)) hx (by omega)).mono ?_); rintro e wa ⟨rfl, hQ⟩; obtain rfl := hQ.symm
        go_wp2_with fail
        (with_reducible refine (ks.out _ _ _ _ _ (h'.below BW (Nat.le_refl _)) hy (by omega)).mono ?_); rintro e wb ⟨rfl, hQ⟩; obtain rfl := hQ.symm
        rcases hsv with q5 | ⟨q5, q6⟩
        · go_wp2_with fail
          (with_reducible refine (kaw.out _).mono ?_); rintro e w9 ⟨rfl, hb9⟩
          go_wp2_with fail
          go_ret
          exact ⟨rfl, BW.trans (hb9.mono BW.size)⟩
        · have hsz := BW.size
          go_wp2_with (at_builtin; first
            | (refine wpList_catH tyB (by rfl) _ _ rfl rfl rfl (OS.nil_ (E := BE) (B := w.heap.size)) (h.below BW (Nat.le_refl _)) (by unfold maxLen; simp; omega) (by simp; omega) hsz ?_; intro v5 w5 ho5 hb5 hg5; rw [List.nil_append] at ho5; have BW5 := BW.trans hb5)
            | (refine wpList_push1H tyB (y := 7) rfl (by rfl) _ _ rfl rfl rfl rfl ho5 (by omega) (by omega) BW5.size ?_; intro v6 w6 ho6 hb6 hg6; have BW6 := BW5.trans hb6; obtain ⟨A6, n6, c6, hv6, hn6, _, _, hr6, _⟩ := ho6.form; subst hv6; rw [List.length_append, hl] at hn6; replace hn6 := Lib.hid hn6))
          (with_reducible refine (ks.out _ _ _ _ _ hr6 (hx.append byt7) (by have := hn6.out; simp at this; omega)).mono ?_); rintro e wc ⟨rfl, hQ⟩; obtain rfl := hQ.symm
          go_wp2_with (at_builtin; first
            | (refine wpList_catH tyB (by rfl) _ _ rfl rfl rfl (OS.nil_ (E := BE) (B := w.heap.size)) (h'.below BW6 (Nat.le_refl _)) (by unfold maxLen; simp; omega) (by simp; omega) BW6.size ?_; intro v7 w7 ho7 hb7 hg7; rw [List.nil_append] at ho7; have BW7 := BW6.trans hb7)
            | (refine wpList_push1H tyB (y := 7) rfl (by rfl) _ _ rfl rfl rfl rfl ho7 (by omega) (by omega) BW7.size ?_; intro v8 w8 ho8 hb8 hg8; have BW8 := BW7.trans hb8; obtain ⟨A8, n8, c8, hv8, hn8, _, _, hr8, _⟩ := ho8.form; subst hv8; rw [List.length_append, hl'] at hn8; replace hn8 := Lib.hid hn8))
          (with_reducible refine (ks.out _ _ _ _ _ hr8 (hy.append byt7) (by have := hn8.out; simp at this; omega)).mono ?_); rintro e wd ⟨rfl, hQ⟩; obtain rfl := hQ.symm
          go_wp2_with fail
          (with_reducible refine (kaw.out _).mono ?_); rintro e w9 ⟨rfl, hb9⟩
          go_wp2_with fail
          go_ret
          exact ⟨rfl, BW8.trans (hb9.mono BW8.size)⟩
      · go_enter Try.func5, Try.ntmps5
        go_wp2_with fail
        (with_reducible refine (ks.out _ _ _ _ _ (h.below BW (Nat.le_refl _)) hx (by omega)).mono ?_); rintro e wa ⟨rfl, hQ⟩; obtain rfl := hQ.symm
        go_wp2_with fail
        (with_reducible refine (ks.out _ _ _ _ _ (h'.below BW (Nat.le_refl _)) hy (by omega)).mono ?_); rintro e wb ⟨rfl, hQ⟩; obtain rfl := hQ.symm
        rcases hsv with q5 | ⟨q5, q6⟩
        · go_wp2_with fail
          (with_reducible refine (kaw.out _).mono ?_); rintro e w9 ⟨rfl, hb9⟩
          go_wp2_with fail
          go_ret
          exact ⟨rfl, BW.trans (hb9.mono BW.size)⟩
        · have hsz := BW.size
          go_wp2_with (at_builtin; first
            | (refine wpList_catH tyB (by rfl) _ _ rfl rfl rfl (OS.nil_ (E := BE) (B := w.heap.size)) (h.below BW (Nat.le_refl _)) (by unfold maxLen; simp; omega) (by simp; omega) hsz ?_; intro v5 w5 ho5 hb5 hg5; rw [List.nil_append] at ho5; have BW5 := BW.trans hb5)
            | (refine wpList_push1H tyB (y := 7) rfl (by rfl) _ _ rfl rfl rfl rfl ho5 (by omega) (by omega) BW5.size ?_; intro v6 w6 ho6 hb6 hg6; have BW6 := BW5.trans hb6; obtain ⟨A6, n6, c6, hv6, hn6, _, _, hr6, _⟩ := ho6.form; subst hv6; rw [List.length_append, hl] at hn6; replace hn6 := Lib.hid hn6))
          (with_reducible refine (ks.out _ _ _ _ _ hr6 (hx.append byt7) (by have := hn6.out; simp at this; omega)).mono ?_); rintro e wc ⟨rfl, hQ⟩; obtain rfl := hQ.symm
          go_wp2_with (at_builtin; first
            | (refine wpList_catH tyB (by rfl) _ _ rfl rfl rfl (OS.nil_ (E := BE) (B := w.heap.size)) (h'.below BW6 (Nat.le_refl _)) (by unfold maxLen; simp; omega) (by simp; omega) BW6.size ?_; intro v7 w7 ho7 hb7 hg7; rw [List.nil_append] at ho7; have BW7 := BW6.trans hb7)
            | (refine wpList_push1H tyB (y := 7) rfl (by rfl) _ _ rfl rfl rfl rfl ho7 (by omega) (by omega) BW7.size ?_; intro v8 w8 ho8 hb8 hg8; have BW8 := BW7.trans hb8; obtain ⟨A8, n8, c8, hv8, hn8, _, _, hr8, _⟩ := ho8.form; subst hv8; rw [List.length_append, hl'] at hn8; replace hn8 := Lib.hid hn8))
          (with_reducible refine (ks.out _ _ _ _ _ hr8 (hy.append byt7) (by have := hn8.out; simp at this; omega)).mono ?_); rintro e wd ⟨rfl, hQ⟩; obtain rfl := hQ.symm
          go_wp2_with fail
          (with_reducible refine (kaw.out _).mono ?_); rintro e w9 ⟨rfl, hb9⟩
          go_wp2_with fail
          go_ret
          exact ⟨rfl, BW8.trans (hb9.mono BW8.size)⟩
end Go.Proofs.Ytbaebeackbciaaa
