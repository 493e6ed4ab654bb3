/- Plain: a batch of which one byte is changed is not read. -/
import Derived.Test.YtbaebeackbciaaaJouN
set_option linter.unusedVariables false
namespace CoEv

theorem set_ne {l : List Nat} {i x y : Nat} (h : l[i]? = some x) (hne : x ≠ y) : l.set i y ≠ l := fun e => by
  have h1 : (l.set i y)[i]? = some y := by
    rw [List.getElem?_set_self (List.getElem?_eq_some_iff.1 h).1]
  rw [e, h] at h1
  injection h1 with h1
  exact hne h1
theorem one_changed {l : List Ev} (h : Rt l) {i x y : Nat} (hx : (btc l)[i]? = some x) (hy : y < 256) (hne : x ≠ y) (rest : List Nat) : one ((btc l).set i y ++ rest) = none := by
  obtain ⟨h0, h1, h2⟩ := h
  have hel := encs_len l
  have hpre := pre_eq h1
  have hpl := pre_len l
  have e0 : btc l = l.length :: (255 - l.length) :: (encs l ++ word (sum (pre l))) := by
    have e1 : ∀ W : List Nat, pre l ++ W = l.length :: (255 - l.length) :: (encs l ++ W) := fun W => by rw [hpre]; rfl
    unfold btc; exact e1 _
  have hslt := sum_lt (pre l)
  have hpb := pre_byt l
  match i with
  | 0 =>
    rw [e0] at hx ⊢
    simp only [List.getElem?_cons_zero, Option.some.injEq] at hx
    rw [List.set_cons_zero]
    simp only [List.cons_append]
    unfold one
    simp only
    rw [if_pos (by omega)]
  | 1 =>
    rw [e0] at hx ⊢
    simp only [List.getElem?_cons_succ, List.getElem?_cons_zero, Option.some.injEq] at hx
    rw [List.set_cons_succ, List.set_cons_zero]
    simp only [List.cons_append]
    unfold one
    simp only
    rw [if_pos (by omega)]
  | j + 2 =>
    have hx2 : (encs l ++ word (sum (pre l)))[j]? = some x := by
      rw [e0] at hx
      simpa only [List.getElem?_cons_succ] using hx
    by_cases hj : j < 10 * l.length
    · have hjl : j < (encs l).length := by omega
      have hsum : sum ((pre l).set (j + 2) y) ≠ sum (pre l) := by
        refine sum_ne hpb (x := x) ?_ hy hne
        rw [hpre]
        simp only [List.getElem?_cons_succ]
        rwa [List.getElem?_append_left hjl] at hx2
      have hset : (pre l).set (j + 2) y = l.length :: (255 - l.length) :: (encs l).set j y := by
        rw [hpre, List.set_cons_succ, List.set_cons_succ]
      rw [hset] at hsum
      have e1 : (btc l).set (j + 2) y ++ rest = l.length :: (255 - l.length) :: ((encs l).set j y ++ (word (sum (pre l)) ++ rest)) := by
        rw [e0, List.set_cons_succ, List.set_cons_succ, List.set_append_left _ _ hjl]
        simp only [List.cons_append, List.append_assoc]
      rw [e1]
      have hsl : ((encs l).set j y).length = 10 * l.length := by rw [List.length_set]; omega
      have t1 : ((encs l).set j y ++ (word (sum (pre l)) ++ rest)).take (10 * l.length) = (encs l).set j y := by rw [← hsl]; exact List.take_left
      have t2 : ((encs l).set j y ++ (word (sum (pre l)) ++ rest)).drop (10 * l.length) = word (sum (pre l)) ++ rest := by rw [← hsl]; exact List.drop_left
      have t3 : (word (sum (pre l)) ++ rest).take 4 = word (sum (pre l)) := by rw [show 4 = (word (sum (pre l))).length from rfl]; exact List.take_left
      unfold one
      simp only
      rw [if_neg (by omega), if_neg (by rw [List.length_append, List.length_append, hsl, word_len]; omega), t1, t2, t3, if_neg]
      intro e
      exact hsum (word_inj (sum_lt _) hslt e.symm)
    · have hjr : 10 * l.length ≤ j := by omega
      have hwi : (word (sum (pre l)))[j - 10 * l.length]? = some x := by
        rw [List.getElem?_append_right (by omega)] at hx2
        rwa [show j - (encs l).length = j - 10 * l.length by omega] at hx2
      have hwne := set_ne hwi hne
      have e1 : (btc l).set (j + 2) y ++ rest = l.length :: (255 - l.length) :: (encs l ++ ((word (sum (pre l))).set (j - 10 * l.length) y ++ rest)) := by
        rw [e0, List.set_cons_succ, List.set_cons_succ, List.set_append_right _ _ (by omega), show j - (encs l).length = j - 10 * l.length by omega]
        simp only [List.cons_append, List.append_assoc]
      rw [e1]
      generalize hW : (word (sum (pre l))).set (j - 10 * l.length) y = W at *
      have hWl : W.length = 4 := by rw [← hW, List.length_set, word_len]
      have t1 : (encs l ++ (W ++ rest)).take (10 * l.length) = encs l := by rw [show 10 * l.length = (encs l).length by omega]; exact List.take_left
      have t2 : (encs l ++ (W ++ rest)).drop (10 * l.length) = W ++ rest := by rw [show 10 * l.length = (encs l).length by omega]; exact List.drop_left
      have t3 : (W ++ rest).take 4 = W := by rw [← hWl]; exact List.take_left
      unfold one
      simp only
      rw [if_neg (by omega), if_neg (by rw [List.length_append, List.length_append, hWl]; omega), t1, t2, t3, ← hpre, if_neg hwne]
/-- Where the first k batches end. -/
def jend (L : List (List Ev)) (k : Nat) : Nat := (joi (L.take k)).length
theorem jend_succ {L : List (List Ev)} {k : Nat} {l : List Ev} (h : L[k]? = some l) : jend L (k + 1) = jend L k + 6 + 10 * l.length := by
  unfold jend
  rw [List.take_add_one, h, joi_append, List.length_append]
  simp only [Option.toList, joi_one, btc_len]; omega
theorem jend_all (L : List (List Ev)) : jend L L.length = (joi L).length := by unfold jend; rw [List.take_length]
theorem joi_split (L : List (List Ev)) {k : Nat} {l : List Ev} (h : L[k]? = some l) : joi L = joi (L.take k) ++ (btc l ++ joi (L.drop (k + 1))) := by
  obtain ⟨hk, hl⟩ := List.getElem?_eq_some_iff.1 h
  conv => lhs; rw [← List.take_append_drop k L]
  rw [joi_append, List.drop_eq_getElem_cons hk, joi_cons, hl]
/-- Of a journal of which one byte is changed, the batches before that byte's are read. -/
theorem read_changed {L : List (List Ev)} (h : Rts L) {n k x y : Nat} {l : List Ev} (hl : L[k]? = some l) (h1 : jend L k ≤ n) (h2 : n < jend L k + 6 + 10 * l.length) (hx : (joi L)[n]? = some x) (hy : y < 256) (hne : x ≠ y) :
    IsRead ((joi L).set n y) (L.take k) (jend L k) := by
  have hs := joi_split L hl
  have hrt : Rt l := h l (List.mem_of_getElem? hl)
  have hbl := btc_len l
  unfold jend at h1 h2 ⊢
  have hset : (joi L).set n y = joi (L.take k) ++ ((btc l).set (n - (joi (L.take k)).length) y ++ joi (L.drop (k + 1))) := by
    rw [hs, List.set_append_right _ _ h1, List.set_append_left _ _ (by omega)]
  rw [hset]
  refine read_joi (fun a ha => h a (List.mem_of_mem_take ha)) (one_changed hrt (x := x) ?_ hy hne _)
  rw [hs, List.getElem?_append_right h1, List.getElem?_append_left (by omega)] at hx
  exact hx
end CoEv
