/- Plain: batches of events in bytes, and journals. -/
import Derived.Test.YtbaebeackbciaaaEveN
set_option linter.unusedVariables false
namespace CoEv

def word (s : Nat) : List Nat := [s / 16777216 % 256, s / 65536 % 256, s / 256 % 256, s % 256]
theorem word_len (s : Nat) : (word s).length = 4 := rfl
theorem word_byt (s : Nat) : Byt (word s) := by
  intro x hx
  simp only [word, List.mem_cons, List.not_mem_nil, or_false] at hx
  omega
theorem word_inj {s t : Nat} (hs : s < 4294967296) (ht : t < 4294967296) (h : word s = word t) : s = t := by
  unfold word at h
  injection h with h1 h
  injection h with h2 h
  injection h with h3 h
  injection h with h4 h
  omega
/-- The bytes of a batch ahead of its sum, and all of them. -/
def pre (l : List Ev) : List Nat := [l.length % 256, (255 - l.length) % 256] ++ encs l
def btc (l : List Ev) : List Nat := pre l ++ word (sum (pre l))
theorem pre_len (l : List Ev) : (pre l).length = 2 + 10 * l.length := by
  unfold pre; rw [List.length_append, encs_len]; simp; omega
theorem pre_byt (l : List Ev) : Byt (pre l) := by
  refine Byt.append ?_ (encs_byt l)
  intro x hx
  simp only [List.mem_cons, List.not_mem_nil, or_false] at hx
  omega
theorem btc_len (l : List Ev) : (btc l).length = 6 + 10 * l.length := by
  unfold btc; rw [List.length_append, pre_len, word_len]; omega
theorem btc_byt (l : List Ev) : Byt (btc l) := (pre_byt l).append (word_byt _)
/-- What written returns behind so many bytes; what the reference's Append returns. -/
def wrE (n : Nat) (l : List Ev) : Int := if 255 < l.length ∨ 1048576 < n + 10 * l.length + 6 then 3 else if l.length = 0 then 13 else chks l
def rwE (n : Nat) (l : List Ev) : Int := if (255 < l.length ∨ 1048576 < n) ∨ (0 < l.length ∧ 1048576 < n + 10 * l.length + 6) then 3 else if l.length = 0 then 13 else chks l
theorem rwE_eq {n : Nat} {l : List Ev} (h : n ≤ 1048570) : rwE n l = wrE n l := by
  unfold rwE wrE
  by_cases h1 : 255 < l.length ∨ 1048576 < n + 10 * l.length + 6
  · rw [if_pos h1, if_pos (by omega)]
  · rw [if_neg h1, if_neg (by omega)]

/-- The batch with which bytes begin, and how many bytes it has. -/
def one (b : List Nat) : Option (List Ev × Nat) :=
  match b with
  | a :: c :: r =>
    if a = 0 ∨ a + c ≠ 255 then none else if r.length < 10 * a + 4 then none
    else if (r.drop (10 * a)).take 4 = word (sum (a :: c :: r.take (10 * a))) then (if decE (r.take (10 * a)) = 0 then some (decL (r.take (10 * a)), 6 + 10 * a) else none)
    else none
  | _ => none
theorem one_le {b : List Nat} {l : List Ev} {m : Nat} (h : one b = some (l, m)) : m ≤ b.length ∧ 16 ≤ m := by
  unfold one at h
  split at h
  · rename_i a c r
    split at h
    · cases h
    split at h
    · cases h
    split at h
    · split at h
      · injection h with h
        injection h with h1 h2
        simp only [List.length_cons]
        omega
      · cases h
    · cases h
  · cases h

/-- The first i batches of bytes, and how many bytes they have. -/
def rdk (b : List Nat) : Nat → Option (List (List Ev) × Nat)
  | 0 => some ([], 0)
  | i + 1 => match rdk b i with
    | none => none
    | some (L, k) => match one (b.drop k) with
      | none => none
      | some (l, m) => some (L ++ [l], k + m)
/-- The batches with which bytes begin, and how many bytes they have. -/
def IsRead (b : List Nat) (L : List (List Ev)) (k : Nat) : Prop := ∃ i, rdk b i = some (L, k) ∧ one (b.drop k) = none
theorem rdk_none {b : List Nat} {i : Nat} (h : rdk b i = none) : ∀ j, rdk b (i + j) = none := by
  intro j
  induction j with
  | zero => exact h
  | succ j ih => rw [← Nat.add_assoc, rdk, ih]
theorem IsRead.unique {b : List Nat} {L L' : List (List Ev)} {k k' : Nat} (h : IsRead b L k) (h' : IsRead b L' k') : L = L' ∧ k = k' := by
  obtain ⟨i, h1, h2⟩ := h
  obtain ⟨j, h3, h4⟩ := h'
  have hi : rdk b (i + 1) = none := by rw [rdk, h1]; simp only [h2]
  have hj : rdk b (j + 1) = none := by rw [rdk, h3]; simp only [h4]
  have : i = j := by
    rcases Nat.lt_trichotomy i j with h | h | h
    · have := rdk_none hi (j - (i + 1)); rw [show i + 1 + (j - (i + 1)) = j by omega, h3] at this; cases this
    · exact h
    · have := rdk_none hj (i - (j + 1)); rw [show j + 1 + (i - (j + 1)) = i by omega, h1] at this; cases this
  subst this
  rw [h1] at h3
  injection h3 with h3
  injection h3 with h3 h5
  exact ⟨h3, h5⟩
theorem rdk_step {b : List Nat} {i k m : Nat} {L : List (List Ev)} {l : List Ev} (h : rdk b i = some (L, k)) (h1 : one (b.drop k) = some (l, m)) : rdk b (i + 1) = some (L ++ [l], k + m) := by
  rw [rdk, h]; simp only [h1]
theorem rdk_bd {b : List Nat} : ∀ {i k : Nat} {L : List (List Ev)}, rdk b i = some (L, k) → k ≤ b.length ∧ L.length = i ∧ 16 * i ≤ k := by
  intro i
  induction i with
  | zero => intro k L h; rw [rdk] at h; injection h with h; injection h with h1 h2; subst h1; subst h2; simp
  | succ i ih =>
    intro k L h
    rw [rdk] at h
    cases hi : rdk b i with
    | none => rw [hi] at h; cases h
    | some p =>
      obtain ⟨L0, k0⟩ := p
      rw [hi] at h
      simp only at h
      cases ho : one (b.drop k0) with
      | none => rw [ho] at h; cases h
      | some q =>
        obtain ⟨l, m⟩ := q
        rw [ho] at h
        injection h with h
        injection h with h1 h2
        have h3 := ih hi
        have h4 := one_le ho
        rw [List.length_drop] at h4
        subst h1; subst h2
        rw [List.length_append]
        simp only [List.length_singleton]
        omega
end CoEv
