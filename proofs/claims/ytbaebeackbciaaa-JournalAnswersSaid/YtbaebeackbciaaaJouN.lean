/- Plain: journals of right batches are read back. -/
import Derived.Test.YtbaebeackbciaaaJouM
set_option linter.unusedVariables false
namespace CoEv

/-- A batch that can be written. -/
def Rt (l : List Ev) : Prop := 0 < l.length ∧ l.length ≤ 255 ∧ chks l = 0
theorem rt_of_wrE {n : Nat} {l : List Ev} (h : wrE n l = 0) : Rt l := by
  unfold wrE at h
  split at h
  · omega
  split at h
  · omega
  exact ⟨by omega, by omega, h⟩
theorem pre_eq {l : List Ev} (h : l.length ≤ 255) : pre l = l.length :: (255 - l.length) :: encs l := by
  unfold pre
  rw [Nat.mod_eq_of_lt (by omega), Nat.mod_eq_of_lt (by omega)]
  rfl
theorem one_btc {l : List Ev} (h : Rt l) (rest : List Nat) : one (btc l ++ rest) = some (l, 6 + 10 * l.length) := by
  obtain ⟨h0, h1, h2⟩ := h
  have hd := dec_encs h2
  have hel := encs_len l
  have e : btc l ++ rest = l.length :: (255 - l.length) :: (encs l ++ (word (sum (pre l)) ++ rest)) := by
    have e0 : ∀ W : List Nat, pre l ++ W = l.length :: (255 - l.length) :: (encs l ++ W) := fun W => by rw [pre_eq h1]; rfl
    unfold btc
    rw [List.append_assoc]; exact e0 _
  rw [e]
  unfold one
  have t1 : (encs l ++ (word (sum (pre l)) ++ rest)).take (10 * l.length) = encs l := by rw [show 10 * l.length = (encs l).length by omega]; exact List.take_left
  have t2 : (encs l ++ (word (sum (pre l)) ++ rest)).drop (10 * l.length) = word (sum (pre l)) ++ rest := by rw [show 10 * l.length = (encs l).length by omega]; exact List.drop_left
  have t3 : (word (sum (pre l)) ++ rest).take 4 = word (sum (pre l)) := by rw [show 4 = (word (sum (pre l))).length from rfl]; exact List.take_left
  simp only
  rw [if_neg (by omega), if_neg (by rw [List.length_append, List.length_append, hel, word_len]; omega), t1, t2, t3, ← pre_eq h1, if_pos rfl, if_pos hd.1, hd.2]
/-- The bytes of batches. -/
def joi (L : List (List Ev)) : List Nat := L.flatMap btc
theorem joi_nil : joi [] = [] := rfl
theorem joi_append (a b : List (List Ev)) : joi (a ++ b) = joi a ++ joi b := by simp [joi]
theorem joi_one (l : List Ev) : joi [l] = btc l := by simp [joi]
theorem joi_cons (l : List Ev) (L : List (List Ev)) : joi (l :: L) = btc l ++ joi L := rfl
theorem joi_byt (L : List (List Ev)) : Byt (joi L) := by
  intro x hx
  simp only [joi, List.mem_flatMap] at hx
  obtain ⟨l, _, h⟩ := hx
  exact btc_byt l x h
def Rts (L : List (List Ev)) : Prop := ∀ l ∈ L, Rt l
theorem Rts.nil_ : Rts [] := fun _ h => by cases h
theorem Rts.snoc {L : List (List Ev)} {l : List Ev} (h : Rts L) (h' : Rt l) : Rts (L ++ [l]) := fun x hx => by
  rcases List.mem_append.1 hx with h1 | h1
  · exact h x h1
  · rw [List.mem_singleton] at h1; subst h1; exact h'
theorem rdk_joi {L : List (List Ev)} (h : Rts L) (rest : List Nat) : ∀ i, i ≤ L.length → rdk (joi L ++ rest) i = some (L.take i, (joi (L.take i)).length) := by
  intro i
  induction i with
  | zero => intro _; rfl
  | succ i ih =>
    intro hi
    have hx : L[i]? = some (L[i]'(by omega)) := List.getElem?_eq_getElem (by omega)
    have hd : (joi L ++ rest).drop (joi (L.take i)).length = btc (L[i]'(by omega)) ++ (joi (L.drop (i + 1)) ++ rest) := by
      conv => lhs; rw [← List.take_append_drop i L]
      rw [joi_append, List.append_assoc, List.take_left' (by rw [List.length_take]; omega), List.drop_left, List.drop_eq_getElem_cons (by omega), joi_cons, List.append_assoc]
    have h1 := one_btc (h _ (List.getElem_mem (by omega : i < L.length))) (joi (L.drop (i + 1)) ++ rest)
    rw [← hd] at h1
    rw [rdk_step (ih (by omega)) h1]
    rw [List.take_add_one, hx]
    simp only [Option.toList, joi_append, joi_one, List.length_append, btc_len]
theorem read_joi {L : List (List Ev)} (h : Rts L) {rest : List Nat} (hr : one rest = none) : IsRead (joi L ++ rest) L (joi L).length := by
  refine ⟨L.length, ?_, ?_⟩
  · rw [rdk_joi h rest L.length (Nat.le_refl _), List.take_length]
  · rw [List.drop_left]; exact hr
theorem read_all {L : List (List Ev)} (h : Rts L) : IsRead (joi L) L (joi L).length := by
  have := read_joi h (rest := []) rfl
  rwa [List.append_nil] at this
/-- What the sanity check of chapter 35 reads. -/
def awE : Ev := ⟨2, 3, 0, 1, 0, 0, 0⟩
theorem aw_rt : wrE 0 [awE] = 0 := by decide
theorem aw_read : IsRead (btc [awE]) [[awE]] 16 := by
  have h := read_all (L := [[awE]]) (fun l hl => by rw [List.mem_singleton] at hl; subst hl; exact rt_of_wrE aw_rt)
  rw [joi_one] at h
  rwa [btc_len] at h
theorem sum_nil : sum [] = 2166136261 := rfl
end CoEv
