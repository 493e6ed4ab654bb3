/- Motifs, in plain Lean: which lists of steps are motifs. -/
import Derived.Test.YtkcmbpokoijglaaMotP
set_option linter.unusedVariables false
namespace CoMot

/-- The number of variables behind a step. -/
def vs (n : Nat) (x : Step) : Option Nat :=
  if n = 0 then (if x = (0, 1) then some 2 else none)
  else if x.1 = x.2 ∨ x.1 < 0 ∨ x.2 < 0 ∨ ((n : Int) ≤ x.1 ∧ (n : Int) ≤ x.2) ∨ (n : Int) < x.1 ∨ (n : Int) < x.2 then none
  else some (if x.1 = n ∨ x.2 = n then n + 1 else n)
def vf (m : List Step) : Option Nat := m.foldl (fun o x => o.bind fun n => vs n x) (some 0)
/-- Is it a motif? -/
def vld (m : List Step) : Bool := decide (1 ≤ m.length) && decide (m.length ≤ 4) && (vf m).isSome
theorem vf_snoc (m : List Step) (x : Step) : vf (m ++ [x]) = (vf m).bind fun n => vs n x := by simp [vf]
theorem add_vs {l l' : List Int} {a b : Int} {s : Step} (h : add l a b = some (l', s)) : vs l.length s = some l'.length := by
  unfold add at h
  unfold vs
  split at h
  · rename_i h0
    subst h0
    split at h
    · injection h with h; injection h with h1 h2
      subst h1; subst h2
      simp
    · cases h
  · split at h
    · cases h
    · rename_i h0 hne
      have hlen : l.length ≠ 0 := fun e => h0 (List.eq_nil_of_length_eq_zero e)
      injection h with h; injection h with h1 h2
      subst h1; subst h2
      have ha := idx_le l a
      have hb := idx_le l b
      rw [if_neg hlen, if_neg (by simp only; omega)]
      simp only [List.length_append]
      congr 1
      by_cases h1 : idx l a = l.length
      · have h2 : ¬ idx l b = l.length := by omega
        rw [if_pos (.inl (by omega)), if_pos h1, if_neg h2]; rfl
      · by_cases h2 : idx l b = l.length
        · rw [if_pos (.inr (by omega)), if_neg h1, if_pos h2]; rfl
        · rw [if_neg (by omega), if_neg h1, if_neg h2]; rfl
theorem ofS_vf : ∀ r ns m, ofS r = some (ns, m) → vf m = some ns.length := by
  intro r
  refine snocI (P := fun r => ∀ ns m, ofS r = some (ns, m) → vf m = some ns.length) (fun ns m h => ?_) (fun r y ih ns m h => ?_) r
  · cases h; rfl
  · rw [ofS_snoc] at h
    obtain ⟨ns0, m0, ns', s, h1, h2, h3⟩ := ofT_some h
    injection h3 with h3 h4
    subst h3
    rw [h4, vf_snoc, ih _ _ h1]
    exact add_vs h2
/-- The variables, as nodes. -/
def rng (n : Nat) : List Int := (List.range n).map fun (i : Nat) => (i : Int)
theorem rng_len (n : Nat) : (rng n).length = n := by simp [rng]
theorem rng_succ (n : Nat) : rng (n + 1) = rng n ++ [(n : Int)] := by simp [rng, List.range_succ]
theorem rng_mem {n : Nat} {x : Int} : x ∈ rng n ↔ 0 ≤ x ∧ x < n := by
  unfold rng
  rw [List.mem_map]
  constructor
  · rintro ⟨i, hi, rfl⟩; rw [List.mem_range] at hi; omega
  · rintro ⟨h1, h2⟩; exact ⟨x.toNat, by rw [List.mem_range]; omega, by omega⟩
theorem idx_rng {n : Nat} {x : Int} (h0 : 0 ≤ x) (hn : x ≤ n) : idx (rng n) x = x.toNat := by
  induction n with
  | zero =>
    have : x = 0 := by omega
    subst this; rfl
  | succ n ih =>
    rw [rng_succ]
    by_cases hx : x < n
    · rw [idx_append (rng_mem.2 ⟨h0, hx⟩)]; exact ih (by omega)
    · have hnew : idx (rng n) x = n := by rw [idx_new (fun h => hx (rng_mem.1 h).2), rng_len]
      unfold idx at hnew ⊢
      rw [List.findIdx_append, if_neg (by rw [rng_len]; omega), rng_len, List.findIdx_cons]
      by_cases h2 : x = n
      · have : decide ((n : Int) = x) = true := by simp [h2]
        rw [this]; simp only [cond_true]; omega
      · have : decide ((n : Int) = x) = false := by simp; omega
        rw [this]; simp only [cond_false, List.findIdx_nil]; omega
theorem vs_add {n n' : Nat} {x : Step} (h : vs n x = some n') : add (rng n) x.1 x.2 = some (rng n', x) := by
  obtain ⟨a, b⟩ := x
  unfold vs at h
  unfold add
  split at h
  · rename_i h0
    subst h0
    split at h
    · rename_i h1
      injection h with h; subst h
      injection h1 with h1 h2; subst h1; subst h2
      rfl
    · cases h
  · rename_i h0
    split at h
    · cases h
    · rename_i h1
      simp only [not_or, not_and, Int.not_lt, Int.not_le] at h1
      obtain ⟨k1, k2, k3, k4, k5, k6⟩ := h1
      injection h with h
      have hne : rng n ≠ [] := fun e => by have := congrArg List.length e; rw [rng_len] at this; simp at this; exact h0 this
      have ia := idx_rng k2 k5
      have ib := idx_rng k3 k6
      rw [if_neg hne]
      simp only [ia, ib, rng_len]
      rw [if_neg (by omega)]
      simp only at h
      have e1 : ((a.toNat : Nat) : Int) = a := by omega
      have e2 : ((b.toNat : Nat) : Int) = b := by omega
      rw [e1, e2]
      congr 1
      congr 1
      by_cases h1 : a.toNat = n
      · have h2 : ¬ b.toNat = n := by omega
        rw [if_pos h1, if_neg h2, List.append_nil, ← h, if_pos (.inl (by omega)), rng_succ, ← e1, h1]
      · by_cases h2 : b.toNat = n
        · rw [if_neg h1, if_pos h2, List.append_nil, ← h, if_pos (.inr (by omega)), rng_succ, ← e2, h2]
        · rw [if_neg h1, if_neg h2, List.append_nil, List.append_nil, ← h, if_neg (by omega)]
theorem vf_ofS : ∀ m n, vf m = some n → ofS m = some (rng n, m) := by
  intro m
  refine snocI (P := fun m => ∀ n, vf m = some n → ofS m = some (rng n, m)) (fun n h => ?_) (fun m x ih n h => ?_) m
  · cases h; rfl
  · rw [vf_snoc] at h
    cases h1 : vf m with
    | none => rw [h1] at h; cases h
    | some n0 =>
      rw [h1] at h
      simp only [Option.bind_some] at h
      rw [ofS_snoc, ih _ h1]
      unfold ofT
      simp only [Option.bind_some, vs_add h, Option.map_some]
theorem vld_ofL {m : List Step} (h : vld m = true) : ofL m = some m := by
  unfold vld at h
  rw [Bool.and_eq_true, Option.isSome_iff_exists] at h
  obtain ⟨_, n, h⟩ := h
  rw [ofL_eq, vf_ofS m n h]; rfl
theorem ofL_vld {r m : List Step} (h : ofL r = some m) (h1 : 1 ≤ r.length) (h4 : r.length ≤ 4) : vld m = true := by
  have hl := ofL_len h
  rw [ofL_eq] at h
  cases h2 : ofS r with
  | none => rw [h2] at h; cases h
  | some q =>
    rw [h2] at h
    simp only [Option.map_some, Option.some.injEq] at h
    subst h
    have := ofS_vf _ _ _ h2
    unfold vld
    rw [this, hl]
    simp [h1, h4]
theorem vld_iff (m : List Step) : vld m = true ↔ 1 ≤ m.length ∧ m.length ≤ 4 ∧ ofL m = some m :=
  ⟨fun h => by
    have h2 := h
    unfold vld at h2
    simp only [Bool.and_eq_true, decide_eq_true_eq] at h2
    exact ⟨h2.1.1, h2.1.2, vld_ofL h⟩, fun ⟨h1, h2, h3⟩ => ofL_vld h3 h1 h2⟩
end CoMot
