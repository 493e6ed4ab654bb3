/- Plain: edges within a set, the sum of degrees, densities compared. -/
import Derived.Test.YtdibfecejgjfmaaGreatDoorRowM
import Derived.Test.YtdibfecejgjfmaaGreatDoorRCoD
import Derived.Test.YtdibfecejgjfmaaGreatDoorMakC
set_option linter.unusedVariables false
set_option linter.unusedSimpArgs false
namespace Go.Proofs.YtdibfecejgjfmaaGreatDoor
open Go.RowKit CoBit

/-- The number of edges within a set. -/
def insE (es : List (Int × Int)) (S : List Int) : Nat := (es.filter fun e => decide (e.1 ∈ S ∧ e.2 ∈ S)).length
theorem insE_nil (S : List Int) : insE [] S = 0 := rfl
theorem insE_cons (e : Int × Int) (es : List (Int × Int)) (S : List Int) : insE (e :: es) S = insE es S + (if e.1 ∈ S ∧ e.2 ∈ S then 1 else 0) := by
  unfold insE
  by_cases h : e.1 ∈ S ∧ e.2 ∈ S <;> simp [List.filter_cons, h]
theorem insE_congr {es : List (Int × Int)} {S T : List Int} (h : ∀ x, x ∈ S ↔ x ∈ T) : insE es S = insE es T := by
  unfold insE
  have e1 : (fun e : Int × Int => decide (e.1 ∈ S ∧ e.2 ∈ S)) = fun e => decide (e.1 ∈ T ∧ e.2 ∈ T) := funext fun e => by simp only [h]
  rw [e1]
theorem insE_mono {es : List (Int × Int)} {S T : List Int} (h : ∀ x ∈ S, x ∈ T) : insE es S ≤ insE es T := by
  induction es with
  | nil => simp [insE_nil]
  | cons e es ih =>
    rw [insE_cons, insE_cons]
    by_cases h1 : e.1 ∈ S ∧ e.2 ∈ S
    · rw [if_pos h1, if_pos ⟨h _ h1.1, h _ h1.2⟩]; omega
    · rw [if_neg h1]; split <;> omega
theorem insE_le (es : List (Int × Int)) (S : List Int) : insE es S ≤ es.length := List.length_filter_le _ _
/-- What edge e adds to the number of neighbours of v in S. -/
def oneE (e : Int × Int) (S : List Int) (v : Int) : Nat := (if e.1 = v ∧ e.2 ∈ S then 1 else 0) + (if e.2 = v ∧ e.1 ∈ S then 1 else 0)
def cntE (es : List (Int × Int)) (S : List Int) (v : Int) : Nat := ((nbl es v).filter fun x => decide (x ∈ S)).length
theorem nbl_cons (e : Int × Int) (es : List (Int × Int)) (v : Int) : nbl (e :: es) v = ((if e.1 = v then [e.2] else []) ++ (if e.2 = v then [e.1] else [])) ++ nbl es v := rfl
theorem cntE_cons (e : Int × Int) (es : List (Int × Int)) (S : List Int) (v : Int) : cntE (e :: es) S v = cntE es S v + oneE e S v := by
  unfold cntE oneE
  rw [nbl_cons, List.filter_append, List.length_append, List.filter_append, List.length_append]
  by_cases h1 : e.1 = v <;> by_cases h2 : e.2 = v <;> by_cases h3 : e.1 ∈ S <;> by_cases h4 : e.2 ∈ S <;> simp [h1, h2, h3, h4] <;> simp_all <;> omega
theorem sum_add {α : Type} (l : List α) (f g : α → Nat) : (l.map fun x => f x + g x).sum = (l.map f).sum + (l.map g).sum := by
  induction l with
  | nil => rfl
  | cons a l ih => simp only [List.map_cons, List.sum_cons]; rw [ih]; omega
theorem sum_zero {α : Type} (l : List α) (f : α → Nat) (h : ∀ x ∈ l, f x = 0) : (l.map f).sum = 0 := by
  induction l with
  | nil => rfl
  | cons a l ih => simp only [List.map_cons, List.sum_cons]; rw [h a (by simp), ih fun x hx => h x (by simp [hx])]
theorem sum_point {S : List Int} (hn : S.Nodup) (u : Int) (c : Nat) : (S.map fun v => if u = v then c else 0).sum = if u ∈ S then c else 0 := by
  induction S with
  | nil => rfl
  | cons a S ih =>
    obtain ⟨h1, h2⟩ := List.nodup_cons.1 hn
    simp only [List.map_cons, List.sum_cons]
    rw [ih h2]
    by_cases h : u = a
    · subst h; simp [h1]
    · simp [h]
theorem sum_one {S : List Int} (hn : S.Nodup) (e : Int × Int) (hne : e.1 ≠ e.2) : (S.map fun v => oneE e S v).sum = if e.1 ∈ S ∧ e.2 ∈ S then 2 else 0 := by
  unfold oneE
  rw [sum_add]
  have h1 : (S.map fun v => if e.1 = v ∧ e.2 ∈ S then 1 else 0).sum = if e.1 ∈ S ∧ e.2 ∈ S then 1 else 0 := by
    by_cases h : e.2 ∈ S
    · have := sum_point hn e.1 1
      simp only [h, and_true]; exact this
    · simp only [h, and_false, if_false]
      exact sum_zero _ _ fun _ _ => rfl
  have h2 : (S.map fun v => if e.2 = v ∧ e.1 ∈ S then 1 else 0).sum = if e.1 ∈ S ∧ e.2 ∈ S then 1 else 0 := by
    by_cases h : e.1 ∈ S
    · have := sum_point hn e.2 1
      simp only [h, and_true, true_and]; exact this
    · simp only [h, and_false, false_and, if_false]
      exact sum_zero _ _ fun _ _ => rfl
  rw [h1, h2]
  split <;> rfl
theorem sum_cnt {es : List (Int × Int)} {S : List Int} (hn : S.Nodup) (hne : ∀ e ∈ es, e.1 ≠ e.2) : (S.map fun v => cntE es S v).sum = 2 * insE es S := by
  induction es with
  | nil => rw [insE_nil]; exact sum_zero _ _ fun _ _ => rfl
  | cons e es ih =>
    have e1 : (S.map fun v => cntE (e :: es) S v) = S.map fun v => cntE es S v + oneE e S v := List.map_congr_left fun v _ => cntE_cons e es S v
    rw [e1, sum_add, ih fun x hx => hne x (by simp [hx]), sum_one hn e (hne e (by simp)), insE_cons]
    split <;> omega
theorem nbl_nodup {n : Int} {es : List (Int × Int)} (h : Srt n es) (v : Int) : (nbl es v).Nodup := by
  induction es with
  | nil => exact List.nodup_nil
  | cons e es ih =>
    obtain ⟨h1, h2⟩ := h
    obtain ⟨h3, h4⟩ := List.pairwise_cons.1 h2
    have he := h1 e (by simp)
    have ih := ih ⟨fun x hx => h1 x (by simp [hx]), h4⟩
    rw [nbl_cons]
    refine List.nodup_append.2 ⟨?_, ih, fun a ha b hb => ?_⟩
    · by_cases h5 : e.1 = v <;> by_cases h6 : e.2 = v <;> simp [h5, h6] <;> omega
    · rintro rfl
      have hb' := mem_nbl.1 hb
      simp only [List.mem_append] at ha
      rcases ha with ha | ha
      · split at ha
        · rename_i h7
          obtain rfl := List.mem_singleton.1 ha
          rcases hb' with hb' | hb'
          · have := h3 _ hb'; unfold ltE at this; simp at this; omega
          · have := h1 _ (List.mem_cons_of_mem _ hb'); simp at this; omega
        · cases ha
      · split at ha
        · rename_i h7
          obtain rfl := List.mem_singleton.1 ha
          rcases hb' with hb' | hb'
          · have := h1 _ (List.mem_cons_of_mem _ hb'); simp at this; omega
          · have := h3 _ hb'; unfold ltE at this; simp at this; omega
        · cases ha
theorem nodup_filter_len {a b : List Int} (ha : a.Nodup) (hb : b.Nodup) (h : ∀ x, x ∈ a ↔ x ∈ b) (p : Int → Bool) : (a.filter p).length = (b.filter p).length :=
  (((List.perm_ext_iff_of_nodup ha hb).2 h).filter p).length_eq
theorem sorted_nodup {a : List Int} (h : a.Pairwise (· < ·)) : a.Nodup := h.imp fun {x y} hxy e => by omega
theorem ltE_trans {a b c : Int × Int} (h : ltE a b) (h' : ltE b c) : ltE a c := by unfold ltE at *; omega
theorem chkE_srt {n : Int} : ∀ (es : List (Int × Int)) (p : Option (Int × Int)), chkE n p es = 0 → (∀ e ∈ es, ∀ q, p = some q → ltE q e) ∧ es.Pairwise ltE
  | [], _, _ => ⟨fun e h => absurd h (by simp), List.Pairwise.nil⟩
  | e :: es, p, h => by
    unfold chkE at h
    by_cases h1 : e.1 < 0 ∨ e.2 ≤ e.1 ∨ n ≤ e.2
    · rw [if_pos h1] at h; omega
    · rw [if_neg h1] at h
      cases p with
      | none =>
        simp only [Bool.false_eq_true, if_false] at h
        obtain ⟨h3, h4⟩ := chkE_srt es (some e) h
        exact ⟨(fun x hx q hq => by cases hq), List.pairwise_cons.2 ⟨fun x hx => h3 x hx e rfl, h4⟩⟩
      | some q0 =>
        by_cases hl : ltE q0 e
        · rw [if_neg (by simp [hl])] at h
          obtain ⟨h3, h4⟩ := chkE_srt es (some e) h
          refine ⟨fun x hx q hq => ?_, List.pairwise_cons.2 ⟨fun x hx => h3 x hx e rfl, h4⟩⟩
          injection hq with hq
          subst hq
          rcases List.mem_cons.1 hx with rfl | hx
          · exact hl
          · exact ltE_trans hl (h3 x hx e rfl)
        · rw [if_pos (by simp [hl])] at h; omega
theorem srt_of_chk {n : Int} {es : List (Int × Int)} (h : chkG n es = 0) : Srt n es :=
  ⟨chkE_lt (chkG_zero h).2.2, (chkE_srt es none (chkG_zero h).2.2).2⟩
theorem dg_cnt {n : Int} {es : List (Int × Int)} (hc : chkG n es = 0) (S : List Int) (v : Int) : dg (nbG n es) S v = cntE es S v := by
  have hs := srt_of_chk hc
  unfold dg cntE
  have e1 : nbG n es v = ofL (nbl es v) := if_pos hc
  rw [e1]
  exact nodup_filter_len (sorted_nodup (of_sorted _)) (nbl_nodup hs v) (fun x => mem_of) _
/-- The degrees within a set add up to twice its edges. -/
theorem hand {n : Int} {es : List (Int × Int)} (hc : chkG n es = 0) {S : List Int} (hn : S.Nodup) : (S.map fun v => dg (nbG n es) S v).sum = 2 * insE es S := by
  have hs := srt_of_chk hc
  have e1 : (S.map fun v => dg (nbG n es) S v) = S.map fun v => cntE es S v := List.map_congr_left fun v _ => dg_cnt hc S v
  rw [e1]
  exact sum_cnt hn fun e he => by have := hs.1 e he; omega
/-- A sum that is at most the length times a number has a part that is at most it. -/
theorem sum_part {l : List Int} {f : Int → Nat} {a b : Nat} (h : (l.map f).sum * a ≤ l.length * b) (h0 : 0 < l.length) : ∃ x ∈ l, f x * a ≤ b := by
  apply Classical.byContradiction
  intro hc
  have hall : ∀ x ∈ l, b + 1 ≤ f x * a := fun x hx => by
    rcases Nat.lt_or_ge b (f x * a) with h1 | h1
    · exact h1
    · exact absurd ⟨x, hx, h1⟩ hc
  have h2 : ∀ l : List Int, (∀ x ∈ l, b + 1 ≤ f x * a) → l.length * (b + 1) ≤ (l.map f).sum * a := by
    intro l
    induction l with
    | nil => intro _; simp
    | cons x l ih =>
      intro h
      have h3 := ih fun y hy => h y (by simp [hy])
      have h4 := h x (by simp)
      simp only [List.map_cons, List.sum_cons, List.length_cons]
      rw [Nat.add_mul, Nat.add_mul]
      omega
  have h5 := h2 l hall
  rw [Nat.mul_add] at h5
  omega
end Go.Proofs.YtdibfecejgjfmaaGreatDoor
