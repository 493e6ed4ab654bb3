/- Plain law of Batches: parts of a list. -/
import Derived.Test.YtbaebeackbciaaaJouZ
import Derived.Test.YtbaebeackbciaaaJouU
set_option linter.unusedVariables false
set_option linter.unusedSimpArgs false
namespace Go.Proofs.Ytbaebeackbciaaa
open Go.RowKit CoEv

theorem joi_flat (L : List (List Ev)) : (joi L).length = 10 * L.flatten.length + 6 * L.length := by
  induction L with
  | nil => rfl
  | cons l L ih => rw [joi_cons, List.length_append, btc_len, ih, List.flatten_cons, List.length_append, List.length_cons]; omega
theorem prt_xs {A : Option Addr} {n k : Nat} {xs : List Ev} (hl : xs.length = n) {j : Nat} (hj : j * k < n) : (prt A n k xs j).xs = (xs.drop (j * k)).take k := by
  unfold prt
  rw [if_pos hj]
  show (xs.drop (j * k)).take (min k (n - j * k)) = _
  rw [← List.take_take, List.take_of_length_le (i := n - j * k) (by rw [List.length_drop]; omega)]
theorem cks_succ (A : Option Addr) (n k : Nat) (xs : List Ev) (m : Nat) : cks A n k xs (m + 1) = cks A n k xs m ++ [(prt A n k xs m).xs] := by simp [cks, List.range_succ]
theorem cks_len (A : Option Addr) (n k : Nat) (xs : List Ev) (m : Nat) : (cks A n k xs m).length = m := by simp [cks]
theorem cks_flat {A : Option Addr} {n k : Nat} {xs : List Ev} (hl : xs.length = n) : ∀ m, (∀ j, j < m → j * k < n) → (cks A n k xs m).flatten = xs.take (m * k) := by
  intro m
  induction m with
  | zero => intro _; simp [cks]
  | succ m ih =>
    intro h
    rw [cks_succ, List.flatten_append, ih (fun j hj => h j (by omega)), List.flatten_cons, List.flatten_nil, List.append_nil, prt_xs hl (h m (by omega)), Nat.succ_mul, List.take_add]
theorem cks_good {A : Option Addr} {n k : Nat} {xs : List Ev} (hl : xs.length = n) (hk : 0 < k) (hk2 : k ≤ 255) (hn : n ≤ 60000) (hx : ∀ ev ∈ xs, chk ev = 0) : ∀ m, (∀ j, j < m → j * k < n) → (st (cks A n k xs m)).2 = 0 ∧ Rts (cks A n k xs m) := by
  intro m
  induction m with
  | zero => intro _; exact ⟨rfl, Rts.nil_⟩
  | succ m ih =>
    intro h
    obtain ⟨h1, h2⟩ := ih (fun j hj => h j (by omega))
    have hm := h m (by omega)
    have hp := prt_xs (A := A) hl hm
    have hmk : m ≤ m * k := Nat.le_mul_of_pos_right m hk
    have hlen : ((xs.drop (m * k)).take k).length = min k (n - m * k) := by rw [List.length_take, List.length_drop, hl]
    have hck : chks ((xs.drop (m * k)).take k) = 0 := chks_all (fun ev he => hx ev (List.mem_of_mem_drop (List.mem_of_mem_take he))) (by omega)
    have hrt : Rt ((xs.drop (m * k)).take k) := ⟨by omega, by omega, hck⟩
    have hfl := congrArg List.length (cks_flat (A := A) hl m (fun j hj => h j (by omega)))
    rw [List.length_take] at hfl
    have hj := joi_flat (cks A n k xs m)
    rw [cks_len, hfl, hl] at hj
    have hw : wrE (joi (cks A n k xs m)).length ((xs.drop (m * k)).take k) = 0 := by
      unfold wrE
      rw [if_neg (by omega), if_neg (by omega)]; exact hck
    rw [cks_succ, hp]
    exact ⟨by rw [st_good h1]; exact hw, h2.snoc hrt⟩
theorem cks_num {n k m : Nat} (hk : 0 < k) (h1 : n ≤ m * k) (h2 : ∀ j, j < m → j * k < n) : (n + k - 1) / k = m := by
  refine Nat.div_eq_of_lt_le ?_ ?_
  · cases m with
    | zero => rw [Nat.zero_mul]; exact Nat.zero_le _
    | succ m => have := h2 m (by omega); rw [Nat.succ_mul]; omega
  · rw [Nat.succ_mul]; omega
/-- All that the law wants of the parts. -/
theorem cks_all {A : Option Addr} {n k m : Nat} {xs : List Ev} (hl : xs.length = n) (hk : 0 < k) (hk2 : k ≤ 255) (hn : n ≤ 60000) (hx : ∀ ev ∈ xs, chk ev = 0) (h2 : ∀ j, j < m → j * k < n) (h1 : n ≤ m * k ∨ (st (cks A n k xs m)).2 ≠ 0) :
    (st (cks A n k xs m)).2 = 0 ∧ btr (cks A n k xs m) = joi (cks A n k xs m) ∧ Rts (cks A n k xs m) ∧ (cks A n k xs m).flatten = xs ∧ (joi (cks A n k xs m)).length = 10 * n + 6 * ((n + k - 1) / k) := by
  obtain ⟨g1, g2⟩ := cks_good (A := A) hl hk hk2 hn hx m h2
  have h1' : n ≤ m * k := h1.resolve_right (fun h => h g1)
  have hf := cks_flat (A := A) hl m h2
  rw [List.take_of_length_le (by omega)] at hf
  refine ⟨g1, by unfold btr; rw [if_pos g1], g2, hf, ?_⟩
  rw [joi_flat, hf, cks_len, hl, cks_num hk h1' h2]
end Go.Proofs.Ytbaebeackbciaaa
