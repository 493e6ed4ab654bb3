/- Printed by merge.py from EveM, EveN, EveA, EveB, EveC, EveD, EveE, EveF, EveG, EveK, EveL. -/
import Derived.Test.YtkcmbpokoijglaaRows
import Derived.PlainAid
import Derived.Test.YtkcmbpokoijglaaGen
import Derived.Laws.BitsAllLaws
import Derived.Lib.AtoiErrMem
import Derived.Test.YtkcmbpokoijglaaDek
/- Plain: events, their errors, their bytes; the sum of bytes. -/
set_option linter.unusedVariables false
namespace CoEv

/-- An event: kind, time, the two nodes, weight, label, sign. -/
structure Ev where
  k : Int
  t : Int
  u : Int
  v : Int
  w : Int
  l : Int
  s : Int
  deriving DecidableEq

def nodeB (v : Int) : Bool := decide (0 ≤ v ∧ v < 64)
def endsB (e : Ev) : Bool := if e.k = 3 then decide ((0 ≤ e.u ∧ e.u < 64) ∧ e.v = 0) else decide ((0 ≤ e.u ∧ e.u < 64) ∧ (0 ≤ e.v ∧ e.v < 64) ∧ e.u ≠ e.v)
def rightB (w l s : Int) : Bool := decide (1 ≤ w ∧ w ≤ 1000 ∧ 0 ≤ l ∧ l ≤ 15 ∧ (s = 1 ∨ s = -1))
/-- The first error of an event. -/
def chk (e : Ev) : Int :=
  if e.k < 1 ∨ e.k > 3 then 8 else if e.t < 0 ∨ e.t > 1048576 then 9 else if endsB e = false then 6
  else if e.k = 1 then (if rightB e.w e.l e.s then 0 else 1) else if e.w ≠ 0 ∨ e.l ≠ 0 ∨ e.s ≠ 0 then 1 else 0
/-- The first error of events. -/
def first (l : List Ev) : Int := match l with | [] => 0 | e :: r => if chk e = 0 then first r else chk e
def chks (l : List Ev) : Int := if l.length > 65536 then 3 else first l
theorem first_append (a b : List Ev) : first (a ++ b) = if first a = 0 then first b else first a := by
  induction a with
  | nil => simp [first]
  | cons e r ih => simp only [List.cons_append, first]; split <;> simp_all
theorem first_all {l : List Ev} (h : first l = 0) : ∀ e ∈ l, chk e = 0 := by
  induction l with
  | nil => simp
  | cons e r ih =>
    intro x hx
    unfold first at h
    split at h
    · rcases List.mem_cons.1 hx with rfl | hx
      · assumption
      · exact ih h x hx
    · rename_i hne; exact absurd h hne
theorem first_zero {l : List Ev} (h : ∀ e ∈ l, chk e = 0) : first l = 0 := by
  induction l with
  | nil => rfl
  | cons e r ih => unfold first; rw [if_pos (h e (by simp))]; exact ih fun x hx => h x (by simp [hx])
theorem first_take {l : List Ev} {i : Nat} {e : Ev} (h0 : first (l.take i) = 0) (h : l[i]? = some e) : first (l.take (i + 1)) = chk e := by
  rw [List.take_add_one, h, first_append, if_pos h0]
  show first [e] = _
  unfold first; split
  · rename_i hz; rw [hz]; rfl
  · rfl
theorem first_stop {l : List Ev} {i : Nat} {e : Ev} (h0 : first (l.take i) = 0) (h : l[i]? = some e) (hne : chk e ≠ 0) : first l = chk e := by
  have h1 := first_take h0 h
  rw [← List.take_append_drop (i + 1) l, first_append, h1, if_neg hne]

/-- What a valid event looks like. -/
theorem chk_bd {e : Ev} (h : chk e = 0) : (1 ≤ e.k ∧ e.k ≤ 3) ∧ (0 ≤ e.t ∧ e.t ≤ 1048576) ∧ (0 ≤ e.u ∧ e.u < 64) ∧ (0 ≤ e.v ∧ e.v < 64) ∧ (0 ≤ e.w ∧ e.w ≤ 1000) ∧ (0 ≤ e.l ∧ e.l ≤ 15) ∧
    (e.k = 1 → e.s = 1 ∨ e.s = -1) ∧ (e.k ≠ 1 → e.s = 0) := by
  unfold chk at h
  split at h
  · omega
  split at h
  · omega
  split at h
  · omega
  rename_i h1 h2 h3
  have h3' : endsB e = true := by simpa using h3
  unfold endsB at h3'
  have hv : (0 ≤ e.u ∧ e.u < 64) ∧ (0 ≤ e.v ∧ e.v < 64) := by
    split at h3'
    · have := of_decide_eq_true h3'; omega
    · have := of_decide_eq_true h3'; omega
  split at h
  · split at h
    · rename_i h4 h5
      have := of_decide_eq_true (show decide _ = true from h5)
      refine ⟨by omega, by omega, hv.1, hv.2, by omega, by omega, fun _ => this.2.2.2.2, fun hn => absurd h4 hn⟩
    · omega
  · split at h
    · omega
    · rename_i h4 h5
      have hw : e.w = 0 := by omega
      have hl : e.l = 0 := by omega
      have hs : e.s = 0 := by omega
      exact ⟨by omega, by omega, hv.1, hv.2, by omega, by omega, fun hn => absurd hn h4, fun _ => hs⟩

/-- The ten bytes of an event. -/
def enc (e : Ev) : List Nat :=
  [(e.k % 256).toNat, (e.t / 65536 % 256).toNat, (e.t / 256 % 256).toNat, (e.t % 256).toNat, (e.u % 256).toNat, (e.v % 256).toNat, (e.w / 256 % 256).toNat, (e.w % 256).toNat, (e.l % 256).toNat, if e.s = -1 then 1 else 0]
def encs (l : List Ev) : List Nat := l.flatMap enc
theorem enc_len (e : Ev) : (enc e).length = 10 := rfl
theorem encs_nil : encs [] = [] := rfl
theorem encs_cons (e : Ev) (l : List Ev) : encs (e :: l) = enc e ++ encs l := rfl
theorem encs_append (a b : List Ev) : encs (a ++ b) = encs a ++ encs b := by simp [encs]
theorem encs_len (l : List Ev) : (encs l).length = l.length * 10 := by
  induction l with
  | nil => rfl
  | cons e r ih => rw [encs_cons, List.length_append, enc_len, ih, List.length_cons]; omega
def Byt (l : List Nat) : Prop := ∀ x ∈ l, x < 256
theorem Byt.append {a b : List Nat} (h : Byt a) (h' : Byt b) : Byt (a ++ b) := fun x hx => by
  rcases List.mem_append.1 hx with h1 | h1
  · exact h x h1
  · exact h' x h1
theorem Byt.of_append {a b : List Nat} (h : Byt (a ++ b)) : Byt a ∧ Byt b := ⟨fun x hx => h x (by simp [hx]), fun x hx => h x (by simp [hx])⟩
theorem Byt.take {a : List Nat} (h : Byt a) (k : Nat) : Byt (a.take k) := fun x hx => h x (List.mem_of_mem_take hx)
theorem Byt.drop {a : List Nat} (h : Byt a) (k : Nat) : Byt (a.drop k) := fun x hx => h x (List.mem_of_mem_drop hx)
theorem Byt.at_ {a : List Nat} (h : Byt a) {k x : Nat} (hx : a[k]? = some x) : x < 256 := h x (List.mem_of_getElem? hx)
theorem enc_byt (e : Ev) : Byt (enc e) := by
  intro x hx
  simp only [enc, List.mem_cons, List.not_mem_nil, or_false] at hx
  rcases hx with rfl | rfl | rfl | rfl | rfl | rfl | rfl | rfl | rfl | rfl
  all_goals first | omega | (split <;> omega)
theorem encs_byt (l : List Ev) : Byt (encs l) := by
  intro x hx
  simp only [encs, List.mem_flatMap] at hx
  obtain ⟨e, _, h⟩ := hx
  exact enc_byt e x h

/-- The event of ten bytes, if they have its form. -/
def evOf (a b c d e f g h i j : Nat) : Ev := ⟨a, b * 65536 + c * 256 + d, e, f, g * 256 + h, i, if a = 1 then 1 - 2 * (j : Int) else 0⟩
def formB (a j : Nat) : Bool := decide (j = 0 ∨ j = 1 ∧ a = 1)
/-- The events of bytes, ten for each, if they have the form. -/
def raws : List Nat → Option (List Ev)
  | [] => some []
  | a :: b :: c :: d :: e :: f :: g :: h :: i :: j :: r => if formB a j then (match raws r with | some l => some (evOf a b c d e f g h i j :: l) | none => none) else none
  | _ => none
/-- What Decode returns. -/
def decE (b : List Nat) : Int := if b.length > 655360 then 3 else if b.length % 10 ≠ 0 then 4 else match raws b with | none => 4 | some l => chks l
def decL (b : List Nat) : List Ev := if decE b = 0 then (match raws b with | none => [] | some l => l) else []

theorem evOf_enc {e : Ev} (h : chk e = 0) : ∃ a b c d x f g y i j, enc e = [a, b, c, d, x, f, g, y, i, j] ∧ formB a j = true ∧ evOf a b c d x f g y i j = e := by
  obtain ⟨h1, h2, h3, h4, h5, h6, h7, h8⟩ := chk_bd h
  refine ⟨_, _, _, _, _, _, _, _, _, _, rfl, ?_, ?_⟩
  · unfold formB
    by_cases hs : e.s = -1
    · rw [if_pos hs]
      have : e.k = 1 := by
        rcases Decidable.em (e.k = 1) with hk | hk
        · exact hk
        · have := h8 hk; omega
      rw [this]; decide
    · rw [if_neg hs]; exact decide_eq_true (.inl rfl)
  · unfold evOf
    obtain ⟨k, t, u, v, w, l, s⟩ := e
    simp only at h1 h2 h3 h4 h5 h6 h7 h8 ⊢
    have hk : ((k % 256).toNat : Int) = k := by omega
    have hs : (if (k % 256).toNat = 1 then 1 - 2 * (((if s = -1 then 1 else 0 : Nat)) : Int) else 0) = s := by
      by_cases h : k = 1
      · rw [if_pos (by omega)]
        rcases h7 h with rfl | rfl <;> decide
      · rw [if_neg (by omega)]
        have := h8 h; omega
    rw [hs]
    congr 1 <;> omega
theorem raws_cons {e : Ev} (h : chk e = 0) (r : List Nat) : raws (enc e ++ r) = match raws r with | some l => some (e :: l) | none => none := by
  obtain ⟨a, b, c, d, x, f, g, y, i, j, h1, h2, h3⟩ := evOf_enc h
  rw [h1]
  show raws (a :: b :: c :: d :: x :: f :: g :: y :: i :: j :: r) = _
  rw [raws, if_pos h2, h3]
theorem raws_encs {l : List Ev} (h : first l = 0) : raws (encs l) = some l := by
  induction l with
  | nil => rfl
  | cons e r ih =>
    have he := first_all h e (by simp)
    have hr : first r = 0 := first_zero fun x hx => first_all h x (by simp [hx])
    rw [encs_cons, raws_cons he, ih hr]
theorem dec_encs {l : List Ev} (h : chks l = 0) : decE (encs l) = 0 ∧ decL (encs l) = l := by
  unfold chks at h
  split at h
  · omega
  rename_i hl
  have hd : decE (encs l) = 0 := by
    unfold decE
    rw [encs_len, if_neg (by omega), if_neg (by omega), raws_encs h]
    show chks l = 0
    unfold chks; rw [if_neg hl]; exact h
  refine ⟨hd, ?_⟩
  unfold decL
  rw [if_pos hd, raws_encs h]

/-- One step of the sum. -/
def stp (s x : Nat) : Nat := (s ^^^ x) * 16777619 % 4294967296
/-- The sum of bytes. -/
def sum (l : List Nat) : Nat := l.foldl stp 2166136261
theorem sum_append (a b : List Nat) : sum (a ++ b) = b.foldl stp (sum a) := List.foldl_append
theorem stp_lt (s x : Nat) : stp s x < 4294967296 := Nat.mod_lt _ (by omega)
theorem fold_lt {s : Nat} (hs : s < 4294967296) (l : List Nat) : l.foldl stp s < 4294967296 := by
  induction l generalizing s with
  | nil => exact hs
  | cons x r ih => exact ih (stp_lt _ _)
theorem sum_lt (l : List Nat) : sum l < 4294967296 := fold_lt (by omega) l
theorem xor_lt32 {a b : Nat} (ha : a < 4294967296) (hb : b < 256) : a ^^^ b < 4294967296 := Nat.xor_lt_two_pow (n := 32) ha (by omega)
theorem mul_inv {s : Nat} (hs : s < 4294967296) : s * 16777619 % 4294967296 * 899433627 % 4294967296 = s := by
  rw [Nat.mul_mod, Nat.mod_mod, ← Nat.mul_mod, Nat.mul_assoc, Nat.mul_mod]
  show s % 4294967296 * 1 % 4294967296 = s
  omega
theorem mul_inj {s t : Nat} (hs : s < 4294967296) (ht : t < 4294967296) (h : s * 16777619 % 4294967296 = t * 16777619 % 4294967296) : s = t := by
  have h1 := mul_inv hs
  have h2 := mul_inv ht
  rw [h] at h1
  exact h1.symm.trans h2
theorem xor_inj {s t x : Nat} (h : s ^^^ x = t ^^^ x) : s = t := by
  have := congrArg (· ^^^ x) h
  simpa [Nat.xor_assoc] using this
theorem xor_inj' {s x y : Nat} (h : s ^^^ x = s ^^^ y) : x = y := by
  rw [Nat.xor_comm s x, Nat.xor_comm s y] at h; exact xor_inj h
theorem stp_inj {s t x : Nat} (hs : s < 4294967296) (ht : t < 4294967296) (hx : x < 256) (h : stp s x = stp t x) : s = t :=
  xor_inj (mul_inj (xor_lt32 hs hx) (xor_lt32 ht hx) h)
theorem stp_ne {s x y : Nat} (hs : s < 4294967296) (hx : x < 256) (hy : y < 256) (h : stp s x = stp s y) : x = y :=
  xor_inj' (mul_inj (xor_lt32 hs hx) (xor_lt32 hs hy) h)
theorem fold_inj {s t : Nat} {l : List Nat} (hl : Byt l) (hs : s < 4294967296) (ht : t < 4294967296) (h : l.foldl stp s = l.foldl stp t) : s = t := by
  induction l generalizing s t with
  | nil => exact h
  | cons x r ih => exact stp_inj hs ht (hl x (by simp)) (ih (fun y hy => hl y (by simp [hy])) (stp_lt _ _) (stp_lt _ _) h)
/-- Bytes of which exactly one is another one have another sum. -/
theorem sum_ne {a : List Nat} {i x y : Nat} (ha : Byt a) (h : a[i]? = some x) (hy : y < 256) (hne : x ≠ y) : sum (a.set i y) ≠ sum a := by
  obtain ⟨hi, hx⟩ := List.getElem?_eq_some_iff.1 h
  have e1 : a = a.take i ++ x :: a.drop (i + 1) := by rw [← hx]; simp
  have e2 : a.set i y = a.take i ++ y :: a.drop (i + 1) := List.set_eq_take_append_cons_drop ▸ by rw [if_pos hi]
  intro hs
  rw [e2] at hs
  rw [e1] at hs
  have hlen : (a.take i ++ x :: a.drop (i + 1)).take i = a.take i := by rw [← e1]
  have hdr : (a.take i ++ x :: a.drop (i + 1)).drop (i + 1) = a.drop (i + 1) := by rw [← e1]
  rw [hlen, hdr, sum_append, sum_append] at hs
  simp only [List.foldl_cons] at hs
  have := fold_inj (ha.drop (i + 1)) (stp_lt _ _) (stp_lt _ _) hs
  exact hne (stp_ne (sum_lt _) hy (ha.at_ h) this).symm
end CoEv

/- Plain: the events of bytes, ten by ten. -/
set_option linter.unusedVariables false
namespace CoEv

theorem split10 {l : List Nat} (h : 10 ≤ l.length) : ∃ b0 b1 b2 b3 b4 b5 b6 b7 b8 b9 r, l = b0 :: b1 :: b2 :: b3 :: b4 :: b5 :: b6 :: b7 :: b8 :: b9 :: r := by
  match l, h with
  | b0 :: b1 :: b2 :: b3 :: b4 :: b5 :: b6 :: b7 :: b8 :: b9 :: r, _ => exact ⟨b0, b1, b2, b3, b4, b5, b6, b7, b8, b9, r, rfl⟩
theorem raws_short {a : List Nat} (h : ¬ 10 ≤ a.length) (h0 : a ≠ []) : raws a = none := by
  match a, h, h0 with
  | [], _, h0 => exact absurd rfl h0
  | [_], _, _ => rfl
  | [_, _], _, _ => rfl
  | [_, _, _], _, _ => rfl
  | [_, _, _, _], _, _ => rfl
  | [_, _, _, _, _], _, _ => rfl
  | [_, _, _, _, _, _], _, _ => rfl
  | [_, _, _, _, _, _, _], _, _ => rfl
  | [_, _, _, _, _, _, _, _], _, _ => rfl
  | [_, _, _, _, _, _, _, _, _], _, _ => rfl
  | _ :: _ :: _ :: _ :: _ :: _ :: _ :: _ :: _ :: _ :: r, h, _ => exact absurd (by simp) h
theorem raws_ways (a : List Nat) : a = [] ∨ raws a = none ∨ ∃ b0 b1 b2 b3 b4 b5 b6 b7 b8 b9 r, a = b0 :: b1 :: b2 :: b3 :: b4 :: b5 :: b6 :: b7 :: b8 :: b9 :: r ∧ formB b0 b9 = true ∧ ∀ l, raws a = some l → ∃ l1, raws r = some l1 ∧ l = evOf b0 b1 b2 b3 b4 b5 b6 b7 b8 b9 :: l1 := by
  by_cases h10 : 10 ≤ a.length
  · obtain ⟨b0, b1, b2, b3, b4, b5, b6, b7, b8, b9, r, rfl⟩ := split10 h10
    cases hf : formB b0 b9
    · right; left
      rw [raws, if_neg (by rw [hf]; decide)]
    · right; right
      refine ⟨b0, b1, b2, b3, b4, b5, b6, b7, b8, b9, r, rfl, hf, fun l h => ?_⟩
      rw [raws, if_pos hf] at h
      cases hr : raws r with
      | none => rw [hr] at h; cases h
      | some l1 =>
        rw [hr] at h
        injection h with h
        exact ⟨l1, rfl, h.symm⟩
  · by_cases h0 : a = []
    · exact .inl h0
    · exact .inr (.inl (raws_short h10 h0))
theorem raws_app : ∀ (n : Nat) (a : List Nat), a.length ≤ n → ∀ l, raws a = some l → ∀ b, raws (a ++ b) = match raws b with | some l' => some (l ++ l') | none => none := by
  intro n
  induction n with
  | zero =>
    intro a hn l h b
    obtain rfl : a = [] := List.eq_nil_of_length_eq_zero (by omega)
    obtain rfl : l = [] := by simp [raws] at h; exact h
    rw [List.nil_append]; cases raws b <;> rfl
  | succ n ih =>
    intro a hn l h b
    rcases raws_ways a with rfl | hn' | ⟨b0, b1, b2, b3, b4, b5, b6, b7, b8, b9, r, rfl, hf, hl⟩
    · obtain rfl : l = [] := by simp [raws] at h; exact h
      rw [List.nil_append]; cases raws b <;> rfl
    · rw [hn'] at h; cases h
    · obtain ⟨l1, h1, rfl⟩ := hl l h
      simp only [List.length_cons] at hn
      show raws (b0 :: b1 :: b2 :: b3 :: b4 :: b5 :: b6 :: b7 :: b8 :: b9 :: (r ++ b)) = _
      rw [raws, if_pos hf, ih r (by omega) l1 h1 b]
      cases raws b <;> rfl
theorem raws_len' : ∀ (n : Nat) (a : List Nat), a.length ≤ n → ∀ l, raws a = some l → a.length = 10 * l.length := by
  intro n
  induction n with
  | zero =>
    intro a hn l h
    obtain rfl : a = [] := List.eq_nil_of_length_eq_zero (by omega)
    obtain rfl : l = [] := by simp [raws] at h; exact h
    rfl
  | succ n ih =>
    intro a hn l h
    rcases raws_ways a with rfl | hn' | ⟨b0, b1, b2, b3, b4, b5, b6, b7, b8, b9, r, rfl, hf, hl⟩
    · obtain rfl : l = [] := by simp [raws] at h; exact h
      rfl
    · rw [hn'] at h; cases h
    · obtain ⟨l1, h1, rfl⟩ := hl l h
      simp only [List.length_cons] at hn ⊢
      have := ih r (by omega) l1 h1
      omega
theorem raws_len (a : List Nat) (l : List Ev) (h : raws a = some l) : a.length = 10 * l.length := raws_len' _ a (Nat.le_refl _) l h
/-- One round of a decoder: ten bytes more. -/
theorem raws_next {bs : List Nat} {k : Nat} {l : List Ev} {b0 b1 b2 b3 b4 b5 b6 b7 b8 b9 : Nat} {r : List Nat} (h : raws (bs.take (10 * k)) = some l) (hd : bs.drop (10 * k) = b0 :: b1 :: b2 :: b3 :: b4 :: b5 :: b6 :: b7 :: b8 :: b9 :: r) :
    (formB b0 b9 = true → raws (bs.take (10 * (k + 1))) = some (l ++ [evOf b0 b1 b2 b3 b4 b5 b6 b7 b8 b9])) ∧ (formB b0 b9 = false → raws bs = none) := by
  refine ⟨fun hf => ?_, fun hf => ?_⟩
  · have e : bs.take (10 * (k + 1)) = bs.take (10 * k) ++ [b0, b1, b2, b3, b4, b5, b6, b7, b8, b9] := by
      rw [Nat.mul_succ, List.take_add, hd]; rfl
    rw [e, raws_app _ _ (Nat.le_refl _) l h, raws, if_pos hf, raws]
  · rw [← List.take_append_drop (10 * k) bs, hd, raws_app _ _ (Nat.le_refl _) l h, raws, if_neg (by rw [hf]; decide)]

end CoEv

/- Events: the program's checks of one event, and the reference's. -/
set_option linter.unusedVariables false
set_option linter.unusedSimpArgs false
namespace Go.Proofs.Ytkcmbpokoijglaa
open Go.RowKit CoEv

def evC (e : Ev) : Array Value := #[.int .i64 e.k, .int .i64 e.t, .int .i64 e.u, .int .i64 e.v, .int .i64 e.w, .int .i64 e.l, .int .i64 e.s]
def evV (e : Ev) : Value := .agg (evC e)
/-- Events in memory. -/
def EE : El Ev := ⟨7, fun e => [.int .i64 e.k, .int .i64 e.t, .int .i64 e.u, .int .i64 e.v, .int .i64 e.w, .int .i64 e.l, .int .i64 e.s], fun _ => rfl, fun _ u hu => by simp at hu; rcases hu with rfl | rfl | rfl | rfl | rfl | rfl | rfl <;> rfl, by omega⟩

set_option maxHeartbeats 1000000 in
theorem enode_any (v : Int) (w : World) : Calls Try.prog 72 #[.int .i64 v] w fun e w' => e = .returned (.bool (nodeB v)) ∧ w' = w := by
  have hw : (decide (0 ≤ v) = false ∧ nodeB v = false) ∨ (decide (0 ≤ v) = true ∧ decide (v < 64) = false ∧ nodeB v = false) ∨ (decide (0 ≤ v) = true ∧ decide (v < 64) = true ∧ nodeB v = true) := by
    unfold nodeB
    simp only [decide_eq_true_eq, decide_eq_false_iff_not]
    omega
  rcases hw with ⟨q1, h⟩ | ⟨q1, q2, h⟩ | ⟨q1, q2, h⟩
  all_goals
    replace h := Lib.hid h
    go_enter Try.func72, Try.ntmps72
    go_wp2_with fail
    go_ret
    exact ⟨retBool h.out.symm, rfl⟩

set_option maxHeartbeats 2000000 in
theorem eright_any (a b c : Int) (w : World) : Calls Try.prog 68 #[.int .i64 a, .int .i64 b, .int .i64 c] w fun e w' => e = .returned (.bool (rightB a b c)) ∧ w' = w := by
  have hw : (decide (1 ≤ a) = false ∧ rightB a b c = false) ∨ (decide (1 ≤ a) = true ∧ decide (a ≤ 1000) = false ∧ rightB a b c = false) ∨ (decide (1 ≤ a) = true ∧ decide (a ≤ 1000) = true ∧ decide (0 ≤ b) = false ∧ rightB a b c = false) ∨
      (decide (1 ≤ a) = true ∧ decide (a ≤ 1000) = true ∧ decide (0 ≤ b) = true ∧ decide (b ≤ 15) = false ∧ rightB a b c = false) ∨ (decide (1 ≤ a) = true ∧ decide (a ≤ 1000) = true ∧ decide (0 ≤ b) = true ∧ decide (b ≤ 15) = true ∧ (c == 1) = true ∧ rightB a b c = true) ∨
      (decide (1 ≤ a) = true ∧ decide (a ≤ 1000) = true ∧ decide (0 ≤ b) = true ∧ decide (b ≤ 15) = true ∧ (c == 1) = false ∧ (c == -1) = true ∧ rightB a b c = true) ∨ (decide (1 ≤ a) = true ∧ decide (a ≤ 1000) = true ∧ decide (0 ≤ b) = true ∧ decide (b ≤ 15) = true ∧ (c == 1) = false ∧ (c == -1) = false ∧ rightB a b c = false) := by
    unfold rightB
    simp only [decide_eq_true_eq, decide_eq_false_iff_not, beq_iff_eq, beq_eq_false_iff_ne]
    omega
  rcases hw with ⟨q1, h⟩ | ⟨q1, q2, h⟩ | ⟨q1, q2, q3, h⟩ | ⟨q1, q2, q3, q4, h⟩ | ⟨q1, q2, q3, q4, q5, h⟩ | ⟨q1, q2, q3, q4, q5, q6, h⟩ | ⟨q1, q2, q3, q4, q5, q6, h⟩
  all_goals
    replace h := Lib.hid h
    go_enter Try.func68, Try.ntmps68
    go_wp2_with fail
    go_ret
    exact ⟨retBool h.out.symm, rfl⟩

set_option maxHeartbeats 2000000 in
theorem eends_any (e : Ev) (w : World) : Calls Try.prog 67 #[evV e] w fun r w' => r = .returned (.bool (endsB e)) ∧ Below w.heap.size w w' := by
  obtain ⟨k, t, u, v, ww, l, s⟩ := e
  have hw : ((k == 3) = true ∧ nodeB u = false ∧ endsB ⟨k, t, u, v, ww, l, s⟩ = false) ∨ ((k == 3) = true ∧ nodeB u = true ∧ endsB ⟨k, t, u, v, ww, l, s⟩ = (v == 0)) ∨
      ((k == 3) = false ∧ nodeB u = false ∧ endsB ⟨k, t, u, v, ww, l, s⟩ = false) ∨ ((k == 3) = false ∧ nodeB u = true ∧ nodeB v = false ∧ endsB ⟨k, t, u, v, ww, l, s⟩ = false) ∨ ((k == 3) = false ∧ nodeB u = true ∧ nodeB v = true ∧ endsB ⟨k, t, u, v, ww, l, s⟩ = (u != v)) := by
    have e1 : ∀ a b : Int, (a == b) = decide (a = b) := fun a b => rfl
    have e2 : (u != v) = decide (u ≠ v) := by by_cases h : u = v <;> simp [h]
    unfold endsB nodeB
    simp only [beq_iff_eq, beq_eq_false_iff_ne, e1, e2, decide_eq_true_eq, decide_eq_false_iff_not]
    by_cases hk : k = 3
    · rw [if_pos hk]
      by_cases hu : 0 ≤ u ∧ u < 64
      · refine .inr (.inl ⟨hk, hu, ?_⟩)
        exact decide_eq_decide.2 ⟨fun h => h.2, fun h => ⟨hu, h⟩⟩
      · exact .inl ⟨hk, hu, decide_eq_false fun h => hu h.1⟩
    · rw [if_neg hk]
      by_cases hu : 0 ≤ u ∧ u < 64
      · by_cases hv : 0 ≤ v ∧ v < 64
        · exact .inr (.inr (.inr (.inr ⟨hk, hu, hv, decide_eq_decide.2 ⟨fun h => h.2.2, fun h => ⟨hu, hv, h⟩⟩⟩)))
        · exact .inr (.inr (.inr (.inl ⟨hk, hu, hv, decide_eq_false fun h => hv h.2.1⟩)))
      · exact .inr (.inr (.inl ⟨hk, hu, decide_eq_false fun h => hu h.1⟩))
  unfold evV evC
  have ku := fun w => enode_any u w
  have kv := fun w => enode_any v w
  rcases hw with ⟨q1, q2, h⟩ | ⟨q1, q2, h⟩ | ⟨q1, q2, h⟩ | ⟨q1, q2, q3, h⟩ | ⟨q1, q2, q3, h⟩
  all_goals
    rw [q2] at ku
    try rw [q3] at kv
    replace ku := Lib.hid ku
    replace kv := Lib.hid kv
    replace h := Lib.hid h
    go_enter Try.func67, Try.ntmps67
    go_wp2_with fail
    (with_reducible refine (ku.out _).mono ?_); rintro e w1 ⟨rfl, rfl⟩
    go_wp2_with fail
    try ((with_reducible refine (kv.out _).mono ?_); rintro e w1 ⟨rfl, rfl⟩; go_wp2_with fail)
    go_ret
    exact ⟨retBool h.out.symm, by go_grown⟩
end Go.Proofs.Ytkcmbpokoijglaa

/- Events: Check of the program, and the reference's from, Attributes, Check. -/
set_option linter.unusedVariables false
set_option linter.unusedSimpArgs false
namespace Go.Proofs.Ytkcmbpokoijglaa
open Go.RowKit CoEv

theorem chk_ways (k t u v ww l s : Int) :
    ((decide (k < 1) = true) ∧ chk ⟨k, t, u, v, ww, l, s⟩ = 8) ∨
    ((decide (k < 1) = false ∧ decide (3 < k) = true) ∧ chk ⟨k, t, u, v, ww, l, s⟩ = 8) ∨
    ((decide (k < 1) = false ∧ decide (3 < k) = false ∧ decide (t < 0) = true) ∧ chk ⟨k, t, u, v, ww, l, s⟩ = 9) ∨
    ((decide (k < 1) = false ∧ decide (3 < k) = false ∧ decide (t < 0) = false ∧ decide (1048576 < t) = true) ∧ chk ⟨k, t, u, v, ww, l, s⟩ = 9) ∨
    ((decide (k < 1) = false ∧ decide (3 < k) = false ∧ decide (t < 0) = false ∧ decide (1048576 < t) = false ∧ endsB ⟨k, t, u, v, ww, l, s⟩ = false) ∧ chk ⟨k, t, u, v, ww, l, s⟩ = 6) ∨
    ((decide (k < 1) = false ∧ decide (3 < k) = false ∧ decide (t < 0) = false ∧ decide (1048576 < t) = false ∧ endsB ⟨k, t, u, v, ww, l, s⟩ = true) ∧ ((k == 1) = true ∧ (k != 1) = false ∧ rightB ww l s = false) ∧ chk ⟨k, t, u, v, ww, l, s⟩ = 1) ∨
    ((decide (k < 1) = false ∧ decide (3 < k) = false ∧ decide (t < 0) = false ∧ decide (1048576 < t) = false ∧ endsB ⟨k, t, u, v, ww, l, s⟩ = true) ∧ ((k == 1) = true ∧ (k != 1) = false ∧ rightB ww l s = true) ∧ chk ⟨k, t, u, v, ww, l, s⟩ = 0) ∨
    ((decide (k < 1) = false ∧ decide (3 < k) = false ∧ decide (t < 0) = false ∧ decide (1048576 < t) = false ∧ endsB ⟨k, t, u, v, ww, l, s⟩ = true) ∧ ((k == 1) = false ∧ (k != 1) = true ∧ (ww != 0) = true) ∧ chk ⟨k, t, u, v, ww, l, s⟩ = 1) ∨
    ((decide (k < 1) = false ∧ decide (3 < k) = false ∧ decide (t < 0) = false ∧ decide (1048576 < t) = false ∧ endsB ⟨k, t, u, v, ww, l, s⟩ = true) ∧ ((k == 1) = false ∧ (k != 1) = true ∧ (ww != 0) = false ∧ (l != 0) = true) ∧ chk ⟨k, t, u, v, ww, l, s⟩ = 1) ∨
    ((decide (k < 1) = false ∧ decide (3 < k) = false ∧ decide (t < 0) = false ∧ decide (1048576 < t) = false ∧ endsB ⟨k, t, u, v, ww, l, s⟩ = true) ∧ ((k == 1) = false ∧ (k != 1) = true ∧ (ww != 0) = false ∧ (l != 0) = false ∧ (s != 0) = true) ∧ chk ⟨k, t, u, v, ww, l, s⟩ = 1) ∨
    ((decide (k < 1) = false ∧ decide (3 < k) = false ∧ decide (t < 0) = false ∧ decide (1048576 < t) = false ∧ endsB ⟨k, t, u, v, ww, l, s⟩ = true) ∧ ((k == 1) = false ∧ (k != 1) = true ∧ (ww != 0) = false ∧ (l != 0) = false ∧ (s != 0) = false) ∧ chk ⟨k, t, u, v, ww, l, s⟩ = 0) := by
  unfold chk
  generalize endsB ⟨k, t, u, v, ww, l, s⟩ = E
  simp only [decide_eq_true_eq, decide_eq_false_iff_not, bne_iff_ne, bne_eq_false_iff_eq, beq_iff_eq, beq_eq_false_iff_ne]
  by_cases h1 : k < 1
  · left; exact ⟨h1, if_pos (by omega)⟩
  right
  by_cases h2 : 3 < k
  · left; exact ⟨⟨h1, h2⟩, if_pos (by omega)⟩
  right
  by_cases h3 : t < 0
  · left; exact ⟨⟨h1, h2, h3⟩, by rw [if_neg (by omega), if_pos (by omega)]⟩
  right
  by_cases h4 : 1048576 < t
  · left; exact ⟨⟨h1, h2, h3, h4⟩, by rw [if_neg (by omega), if_pos (by omega)]⟩
  right
  cases E
  · left; exact ⟨⟨h1, h2, h3, h4, rfl⟩, by rw [if_neg (by omega), if_neg (by omega), if_pos rfl]⟩
  right
  rw [if_neg (show ¬ (k < 1 ∨ k > 3) by omega), if_neg (show ¬ (t < 0 ∨ t > 1048576) by omega), if_neg (show ¬ (true = false) by decide)]
  by_cases h5 : k = 1
  · rw [if_pos h5]
    cases hr : rightB ww l s
    · left; exact ⟨⟨h1, h2, h3, h4, rfl⟩, ⟨h5, h5, rfl⟩, rfl⟩
    · right; left; exact ⟨⟨h1, h2, h3, h4, rfl⟩, ⟨h5, h5, rfl⟩, rfl⟩
  right; right
  rw [if_neg h5]
  by_cases h6 : ww = 0
  · by_cases h7 : l = 0
    · by_cases h8 : s = 0
      · right; right; right; exact ⟨⟨h1, h2, h3, h4, rfl⟩, ⟨h5, h5, h6, h7, h8⟩, by rw [if_neg (by omega)]⟩
      · right; right; left; exact ⟨⟨h1, h2, h3, h4, rfl⟩, ⟨h5, h5, h6, h7, h8⟩, by rw [if_pos (by omega)]⟩
    · right; left; exact ⟨⟨h1, h2, h3, h4, rfl⟩, ⟨h5, h5, h6, h7⟩, by rw [if_pos (by omega)]⟩
  · left; exact ⟨⟨h1, h2, h3, h4, rfl⟩, ⟨h5, h5, h6⟩, by rw [if_pos (by omega)]⟩

set_option maxHeartbeats 4000000 in
theorem echeck_any (e : Ev) (w : World) : Calls Try.prog 61 #[evV e] w fun r w' => r = .returned (.int .i64 (chk e)) ∧ Below w.heap.size w w' := by
  have ke := fun w => eends_any e w
  obtain ⟨k, t, u, v, ww, l, s⟩ := e
  have kr := fun w => eright_any ww l s w
  have hw := chk_ways k t u v ww l s
  have hs : evV ⟨k, t, u, v, ww, l, s⟩ = .agg #[.int .i64 k, .int .i64 t, .int .i64 u, .int .i64 v, .int .i64 ww, .int .i64 l, .int .i64 s] := rfl
  generalize endsB ⟨k, t, u, v, ww, l, s⟩ = E at *
  generalize rightB ww l s = R at *
  generalize chk ⟨k, t, u, v, ww, l, s⟩ = C at *
  rw [hs] at *
  rcases hw with ⟨q1, rfl⟩ | ⟨⟨q1, q2⟩, rfl⟩ | ⟨⟨q1, q2, q3⟩, rfl⟩ | ⟨⟨q1, q2, q3, q4⟩, rfl⟩ | ⟨⟨q1, q2, q3, q4, rfl⟩, rfl⟩ | ⟨⟨q1, q2, q3, q4, rfl⟩, ⟨q5, q6, rfl⟩, rfl⟩ | ⟨⟨q1, q2, q3, q4, rfl⟩, ⟨q5, q6, rfl⟩, rfl⟩ | ⟨⟨q1, q2, q3, q4, rfl⟩, ⟨q5, q6, q7⟩, rfl⟩ | ⟨⟨q1, q2, q3, q4, rfl⟩, ⟨q5, q6, q7, q8⟩, rfl⟩ | ⟨⟨q1, q2, q3, q4, rfl⟩, ⟨q5, q6, q7, q8, q9⟩, rfl⟩ | ⟨⟨q1, q2, q3, q4, rfl⟩, ⟨q5, q6, q7, q8, q9⟩, rfl⟩
  all_goals
    replace ke := Lib.hid ke
    replace kr := Lib.hid kr
    clear hs
    go_enter Try.func61, Try.ntmps61
    go_wp2_with fail
  all_goals try (go_ret; exact ⟨rfl, by go_grown⟩)
  all_goals
    (with_reducible refine (ke.out _).mono ?_)
    rintro r w1 ⟨rfl, hb⟩
    have G := Blk.below (Blk.new w _ _) hb (by simp)
    have c0 := Blk.cell G 0
    have c4 := Blk.cell G 4
    have c5 := Blk.cell G 5
    have c6 := Blk.cell G 6
    simp at c0 c4 c5 c6
    have hb0 : Below w.heap.size w w1 := ((Below.refl _ _).alloc (Nat.le_refl _) _).trans (hb.mono (by simp))
    clear hb G ke
    go_wp2_with fail
    try ((with_reducible refine (kr.out _).mono ?_); rintro e w1 ⟨rfl, rfl⟩; go_wp2_with fail)
    go_ret
    exact ⟨rfl, hb0⟩

set_option maxHeartbeats 1000000 in
theorem efrom_any (n a b : Int) (w : World) : Calls Try.prog 69 #[.int .i64 n, .int .i64 a, .int .i64 b] w fun e w' => e = .returned (.bool (decide (a ≤ n ∧ n ≤ b))) ∧ w' = w := by
  have hw : (decide (a ≤ n) = false ∧ decide (a ≤ n ∧ n ≤ b) = false) ∨ (decide (a ≤ n) = true ∧ decide (n ≤ b) = false ∧ decide (a ≤ n ∧ n ≤ b) = false) ∨ (decide (a ≤ n) = true ∧ decide (n ≤ b) = true ∧ decide (a ≤ n ∧ n ≤ b) = true) := by
    simp only [decide_eq_true_eq, decide_eq_false_iff_not]
    omega
  generalize decide (a ≤ n ∧ n ≤ b) = R at *
  rcases hw with ⟨q1, rfl⟩ | ⟨q1, q2, rfl⟩ | ⟨q1, q2, rfl⟩
  all_goals
    go_enter Try.func69, Try.ntmps69
    go_wp2_with fail
    go_ret
    exact ⟨rfl, rfl⟩
theorem right_ways (a b c : Int) : (decide (1 ≤ a ∧ a ≤ 1000) = false ∧ rightB a b c = false) ∨ (decide (1 ≤ a ∧ a ≤ 1000) = true ∧ decide (0 ≤ b ∧ b ≤ 15) = false ∧ rightB a b c = false) ∨
    (decide (1 ≤ a ∧ a ≤ 1000) = true ∧ decide (0 ≤ b ∧ b ≤ 15) = true ∧ (c != 1) = true ∧ (c != -1) = true ∧ rightB a b c = false) ∨ (decide (1 ≤ a ∧ a ≤ 1000) = true ∧ decide (0 ≤ b ∧ b ≤ 15) = true ∧ (c != 1) = true ∧ (c != -1) = false ∧ rightB a b c = true) ∨
    (decide (1 ≤ a ∧ a ≤ 1000) = true ∧ decide (0 ≤ b ∧ b ≤ 15) = true ∧ (c != 1) = false ∧ rightB a b c = true) := by
  unfold rightB
  simp only [decide_eq_true_eq, decide_eq_false_iff_not, bne_iff_ne, bne_eq_false_iff_eq]
  omega
set_option maxHeartbeats 2000000 in
theorem eattr_any (a b c : Int) (w : World) : Calls Try.prog 70 #[.int .i64 a, .int .i64 b, .int .i64 c] w fun e w' => e = .returned (.int .i64 (if rightB a b c then 0 else 1)) ∧ Below w.heap.size w w' := by
  have ka := fun w => efrom_any a 1 1000 w
  have kb := fun w => efrom_any b 0 15 w
  have hw := right_ways a b c
  generalize decide (1 ≤ a ∧ a ≤ 1000) = X at *
  generalize decide (0 ≤ b ∧ b ≤ 15) = Y at *
  generalize rightB a b c = R at *
  rcases hw with ⟨rfl, rfl⟩ | ⟨rfl, rfl, rfl⟩ | ⟨rfl, rfl, q1, q2, rfl⟩ | ⟨rfl, rfl, q1, q2, rfl⟩ | ⟨rfl, rfl, q1, rfl⟩
  all_goals
    replace ka := Lib.hid ka
    replace kb := Lib.hid kb
    go_enter Try.func70, Try.ntmps70
    go_wp2_with fail
    first
      | (go_quiet (first | (go_at_call 69; exact Calls.quiet_of_same (ka.out _)) | (go_at_call 69; exact Calls.quiet_of_same (kb.out _)))
         go_wp2_with fail)
      | ((with_reducible refine (ka.out _).mono ?_); rintro e w1 ⟨rfl, rfl⟩; go_wp2_with fail; try ((with_reducible refine (kb.out _).mono ?_); rintro e w1 ⟨rfl, rfl⟩; go_wp2_with fail))
    go_ret
    exact ⟨rfl, by go_grown⟩
end Go.Proofs.Ytkcmbpokoijglaa

/- Events: the reference's Check; the checks of lists. -/
set_option linter.unusedVariables false
set_option linter.unusedSimpArgs false
namespace Go.Proofs.Ytkcmbpokoijglaa
open Go.RowKit CoEv

theorem ends_ways (k u v : Int) (t ww l s : Int) :
    (decide (0 ≤ u ∧ u ≤ 63) = false ∧ endsB ⟨k, t, u, v, ww, l, s⟩ = false) ∨
    ((decide (0 ≤ u ∧ u ≤ 63) = true ∧ (k == 3) = true ∧ (v != 0) = true) ∧ endsB ⟨k, t, u, v, ww, l, s⟩ = false) ∨
    ((decide (0 ≤ u ∧ u ≤ 63) = true ∧ (k == 3) = true ∧ (v != 0) = false ∧ (k != 3) = false) ∧ endsB ⟨k, t, u, v, ww, l, s⟩ = true) ∨
    ((decide (0 ≤ u ∧ u ≤ 63) = true ∧ (k == 3) = false ∧ (k != 3) = true ∧ decide (0 ≤ v ∧ v ≤ 63) = false) ∧ endsB ⟨k, t, u, v, ww, l, s⟩ = false) ∨
    ((decide (0 ≤ u ∧ u ≤ 63) = true ∧ (k == 3) = false ∧ (k != 3) = true ∧ decide (0 ≤ v ∧ v ≤ 63) = true ∧ (u == v) = true) ∧ endsB ⟨k, t, u, v, ww, l, s⟩ = false) ∨
    ((decide (0 ≤ u ∧ u ≤ 63) = true ∧ (k == 3) = false ∧ (k != 3) = true ∧ decide (0 ≤ v ∧ v ≤ 63) = true ∧ (u == v) = false) ∧ endsB ⟨k, t, u, v, ww, l, s⟩ = true) := by
  unfold endsB
  simp only [decide_eq_true_eq, decide_eq_false_iff_not, bne_iff_ne, bne_eq_false_iff_eq, beq_iff_eq, beq_eq_false_iff_ne]
  by_cases hu : 0 ≤ u ∧ u ≤ 63
  · have hu' : 0 ≤ u ∧ u < 64 := by omega
    by_cases hk : k = 3
    · rw [if_pos hk]
      by_cases hv : v = 0
      · exact .inr (.inr (.inl ⟨⟨hu, hk, hv, hk⟩, decide_eq_true ⟨hu', hv⟩⟩))
      · exact .inr (.inl ⟨⟨hu, hk, hv⟩, decide_eq_false fun h => hv h.2⟩)
    · rw [if_neg hk]
      by_cases hv : 0 ≤ v ∧ v ≤ 63
      · by_cases he : u = v
        · exact .inr (.inr (.inr (.inr (.inl ⟨⟨hu, hk, hk, hv, he⟩, decide_eq_false fun h => h.2.2 he⟩))))
        · exact .inr (.inr (.inr (.inr (.inr ⟨⟨hu, hk, hk, hv, he⟩, decide_eq_true ⟨hu', by omega, he⟩⟩))))
      · exact .inr (.inr (.inr (.inl ⟨⟨hu, hk, hk, hv⟩, decide_eq_false fun h => hv ⟨h.2.1.1, by omega⟩⟩)))
  · refine .inl ⟨hu, ?_⟩
    split
    · exact decide_eq_false fun h => hu ⟨h.1.1, by omega⟩
    · exact decide_eq_false fun h => hu ⟨h.1.1, by omega⟩
theorem chk_tail (k t u v ww l s : Int) (h1 : decide (1 ≤ k ∧ k ≤ 3) = true) (h2 : decide (0 ≤ t ∧ t ≤ 1048576) = true) (h3 : endsB ⟨k, t, u, v, ww, l, s⟩ = true) :
    ((k == 1) = true ∧ chk ⟨k, t, u, v, ww, l, s⟩ = if rightB ww l s then 0 else 1) ∨ ((k == 1) = false ∧ (ww != 0) = true ∧ chk ⟨k, t, u, v, ww, l, s⟩ = 1) ∨
    ((k == 1) = false ∧ (ww != 0) = false ∧ (l != 0) = true ∧ chk ⟨k, t, u, v, ww, l, s⟩ = 1) ∨ ((k == 1) = false ∧ (ww != 0) = false ∧ (l != 0) = false ∧ (s != 0) = true ∧ chk ⟨k, t, u, v, ww, l, s⟩ = 1) ∨
    ((k == 1) = false ∧ (ww != 0) = false ∧ (l != 0) = false ∧ (s != 0) = false ∧ chk ⟨k, t, u, v, ww, l, s⟩ = 0) := by
  have h1' := of_decide_eq_true h1
  have h2' := of_decide_eq_true h2
  unfold chk
  simp only [bne_iff_ne, bne_eq_false_iff_eq, beq_iff_eq, beq_eq_false_iff_ne]
  rw [if_neg (show ¬ (k < 1 ∨ k > 3) by omega), if_neg (show ¬ (t < 0 ∨ t > 1048576) by omega), h3, if_neg (show ¬ (true = false) by decide)]
  by_cases hk : k = 1
  · left; exact ⟨hk, by rw [if_pos hk]⟩
  · rw [if_neg hk]
    by_cases h6 : ww = 0
    · by_cases h7 : l = 0
      · by_cases h8 : s = 0
        · right; right; right; right; exact ⟨hk, h6, h7, h8, by rw [if_neg (by omega)]⟩
        · right; right; right; left; exact ⟨hk, h6, h7, h8, by rw [if_pos (by omega)]⟩
      · right; right; left; exact ⟨hk, h6, h7, by rw [if_pos (by omega)]⟩
    · right; left; exact ⟨hk, h6, by rw [if_pos (by omega)]⟩
theorem chk_head (k t u v ww l s : Int) : (decide (1 ≤ k ∧ k ≤ 3) = false ∧ chk ⟨k, t, u, v, ww, l, s⟩ = 8) ∨ (decide (1 ≤ k ∧ k ≤ 3) = true ∧ decide (0 ≤ t ∧ t ≤ 1048576) = false ∧ chk ⟨k, t, u, v, ww, l, s⟩ = 9) ∨
    (decide (1 ≤ k ∧ k ≤ 3) = true ∧ decide (0 ≤ t ∧ t ≤ 1048576) = true ∧ (endsB ⟨k, t, u, v, ww, l, s⟩ = false → chk ⟨k, t, u, v, ww, l, s⟩ = 6)) := by
  unfold chk
  simp only [decide_eq_true_eq, decide_eq_false_iff_not]
  by_cases h1 : 1 ≤ k ∧ k ≤ 3
  · rw [if_neg (show ¬ (k < 1 ∨ k > 3) by omega)]
    by_cases h2 : 0 ≤ t ∧ t ≤ 1048576
    · rw [if_neg (show ¬ (t < 0 ∨ t > 1048576) by omega)]
      exact .inr (.inr ⟨h1, h2, fun h => by rw [if_pos h]⟩)
    · rw [if_pos (show (t < 0 ∨ t > 1048576) by omega)]
      exact .inr (.inl ⟨h1, h2, rfl⟩)
  · rw [if_pos (show (k < 1 ∨ k > 3) by omega)]
    exact .inl ⟨h1, rfl⟩

set_option maxHeartbeats 8000000 in
theorem rcheck4_any (e : Ev) (w : World) : Calls Try.prog 62 #[evV e] w fun r w' => r = .returned (.int .i64 (chk e)) ∧ Below w.heap.size w w' := by
  obtain ⟨k, t, u, v, ww, l, s⟩ := e
  have hs : evV ⟨k, t, u, v, ww, l, s⟩ = .agg #[.int .i64 k, .int .i64 t, .int .i64 u, .int .i64 v, .int .i64 ww, .int .i64 l, .int .i64 s] := rfl
  have kk := fun w => efrom_any k 1 3 w
  have kt := fun w => efrom_any t 0 1048576 w
  have ku := fun w => efrom_any u 0 63 w
  have kv := fun w => efrom_any v 0 63 w
  have kr := fun w => eattr_any ww l s w
  have h1 := chk_head k t u v ww l s
  have h2 := ends_ways k u v t ww l s
  have h3 := chk_tail k t u v ww l s
  rw [hs]
  generalize decide (1 ≤ k ∧ k ≤ 3) = X at *
  generalize decide (0 ≤ t ∧ t ≤ 1048576) = T at *
  generalize decide (0 ≤ u ∧ u ≤ 63) = U at *
  generalize decide (0 ≤ v ∧ v ≤ 63) = V at *
  generalize endsB ⟨k, t, u, v, ww, l, s⟩ = E at *
  generalize rightB ww l s = R at *
  generalize chk ⟨k, t, u, v, ww, l, s⟩ = C at *
  clear hs
  have G : Blk (w.alloc (.cells #[.int .i64 k, .int .i64 t, .int .i64 u, .int .i64 v, .int .i64 ww, .int .i64 l, .int .i64 s] 90)) w.heap.size 90 #[.int .i64 k, .int .i64 t, .int .i64 u, .int .i64 v, .int .i64 ww, .int .i64 l, .int .i64 s] := Blk.new _ _ _
  rcases h1 with ⟨rfl, rfl⟩ | ⟨rfl, rfl, rfl⟩ | ⟨rfl, rfl, hE⟩
  · replace kk := Lib.hid kk
    clear kt ku kv kr h2 h3
    go_enter Try.func62, Try.ntmps62
    go_wp2_with fail
    (with_reducible refine (kk.out _).mono ?_); rintro e w1 ⟨rfl, rfl⟩
    go_wp2_with fail
    go_ret
    exact ⟨rfl, by go_grown⟩
  · replace kk := Lib.hid kk
    replace kt := Lib.hid kt
    clear ku kv kr h2 h3
    go_enter Try.func62, Try.ntmps62
    go_wp2_with fail
    (with_reducible refine (kk.out _).mono ?_); rintro e w1 ⟨rfl, rfl⟩
    go_wp2_with fail
    (with_reducible refine (kt.out _).mono ?_); rintro e w1 ⟨rfl, rfl⟩
    go_wp2_with fail
    go_ret
    exact ⟨rfl, by go_grown⟩
  · replace kk := Lib.hid kk
    replace kt := Lib.hid kt
    replace h3 := fun h => h3 rfl rfl h
    rcases h2 with ⟨rfl, rfl⟩ | ⟨⟨rfl, p2, p3⟩, rfl⟩ | ⟨⟨rfl, p2, p3, p4⟩, rfl⟩ | ⟨⟨rfl, p2, p3, rfl⟩, rfl⟩ | ⟨⟨rfl, p2, p3, rfl, p5⟩, rfl⟩ | ⟨⟨rfl, p2, p3, rfl, p5⟩, rfl⟩
    all_goals
      replace ku := Lib.hid ku
      replace kv := Lib.hid kv
      replace kr := Lib.hid kr
    all_goals first | (obtain rfl := hE rfl) | (rcases h3 rfl with ⟨p6, rfl⟩ | ⟨p6, p7, rfl⟩ | ⟨p6, p7, p8, rfl⟩ | ⟨p6, p7, p8, p9, rfl⟩ | ⟨p6, p7, p8, p9, rfl⟩)
    all_goals
      clear h3 hE
      go_enter Try.func62, Try.ntmps62
      go_wp2_with fail
      (with_reducible refine (kk.out _).mono ?_); rintro e w1 ⟨rfl, rfl⟩
      go_wp2_with fail
      (with_reducible refine (kt.out _).mono ?_); rintro e w1 ⟨rfl, rfl⟩
      go_wp2_with fail
      (with_reducible refine (ku.out _).mono ?_); rintro e w1 ⟨rfl, rfl⟩
      go_wp2_with fail
      try ((with_reducible refine (kv.out _).mono ?_); rintro e w1 ⟨rfl, rfl⟩; go_wp2_with fail)
      try ((with_reducible refine (kr.out _).mono ?_); rintro e w1 ⟨rfl, hb⟩; go_wp2_with fail)
      all_goals
        go_ret
        first | exact ⟨rfl, ((Below.refl _ _).alloc (Nat.le_refl _) _).trans (hb.mono (by simp))⟩ | exact ⟨rfl, by go_grown⟩
end Go.Proofs.Ytkcmbpokoijglaa

/- Events: the checks of lists. -/
set_option linter.unusedVariables false
set_option linter.unusedSimpArgs false
namespace Go.Proofs.Ytkcmbpokoijglaa
open Go.RowKit CoEv

theorem RS.ev {w : World} {A : Option Addr} {n k : Nat} {xs : List Ev} (h : RS EE w A n xs) (hk : k < n) : ∃ ad e, A = some ad ∧ ad.block < w.heap.size ∧ Hid (xs[k]? = some e) ∧
    w.cell? (ad.add (k * 7)) = some (.int .i64 e.k) ∧ w.cell? ⟨(ad.add (k * 7)).block, (ad.add (k * 7)).off + 1, none⟩ = some (.int .i64 e.t) ∧ w.cell? ⟨(ad.add (k * 7)).block, (ad.add (k * 7)).off + 2, none⟩ = some (.int .i64 e.u) ∧
    w.cell? ⟨(ad.add (k * 7)).block, (ad.add (k * 7)).off + 3, none⟩ = some (.int .i64 e.v) ∧ w.cell? ⟨(ad.add (k * 7)).block, (ad.add (k * 7)).off + 4, none⟩ = some (.int .i64 e.w) ∧ w.cell? ⟨(ad.add (k * 7)).block, (ad.add (k * 7)).off + 5, none⟩ = some (.int .i64 e.l) ∧
    w.cell? ⟨(ad.add (k * 7)).block, (ad.add (k * 7)).off + 6, none⟩ = some (.int .i64 e.s) := by
  obtain ⟨ad, e, h1, h2, h3, h4⟩ := h.get hk
  exact ⟨ad, e, h1, h2, h3, h4 0 _ rfl, h4 1 _ rfl, h4 2 _ rfl, h4 3 _ rfl, h4 4 _ rfl, h4 5 _ rfl, h4 6 _ rfl⟩

end Go.Proofs.Ytkcmbpokoijglaa

/- Events: their bytes. -/
set_option linter.unusedVariables false
set_option linter.unusedSimpArgs false
namespace Go.Proofs.Ytkcmbpokoijglaa
open Go.RowKit CoEv

theorem encs_take {l : List Ev} {i : Nat} {e : Ev} (h : l[i]? = some e) : encs (l.take (i + 1)) = encs (l.take i) ++ enc e := by
  rw [List.take_add_one, h, encs_append]; simp [encs]
theorem encs_take_len (l : List Ev) (i : Nat) : (encs (l.take i)).length ≤ i * 10 := by
  rw [encs_len, List.length_take]; omega
/-- What Encode returns. -/
def encE (l : List Ev) : List Nat := if chks l = 0 then encs l else []
theorem enc_cells (k t u v ww l s : Int) (z : Int) (hz : z = if s = -1 then 1 else 0) : (#[.int .u8 (k % 256), .int .u8 (t / 65536 % 256), .int .u8 (t / 256 % 256), .int .u8 (t % 256), .int .u8 (u % 256), .int .u8 (v % 256), .int .u8 (ww / 256 % 256), .int .u8 (ww % 256), .int .u8 (l % 256), .int .u8 z] : Array Value) = (BE.all (enc ⟨k, t, u, v, ww, l, s⟩)).toArray := by
  subst hz
  have e : ∀ x : Int, ((x % 256).toNat : Int) = x % 256 := fun x => by omega
  simp only [enc, BE, El.all, List.flatMap_cons, List.flatMap_nil, List.cons_append, List.nil_append, e]
  split <;> rfl

end Go.Proofs.Ytkcmbpokoijglaa

/- Events: the event of ten bytes; Decode. -/
set_option linter.unusedVariables false
set_option linter.unusedSimpArgs false
namespace Go.Proofs.Ytkcmbpokoijglaa
open Go.RowKit CoEv

theorem cellA' {w : World} {p : Addr} {v : Value} (h : w.cell? p = some v) (o : Obj) : (w.alloc o).cell? p = some v := by
  rw [World.cell?_alloc_lt w o p (Lib.lt_of_cell h)]; exact h
theorem i64_or_nat (a b : Nat) (ha : a < 9223372036854775808) (hb : b < 9223372036854775808) : bits .or .i64 (a : Int) (b : Int) = ((a ||| b : Nat) : Int) := by
  have hx : a ||| b < 2 ^ 63 := Nat.or_lt_two_pow (by omega) (by omega)
  show IntKind.i64.wrap ((BitVec.ofInt 64 (a : Int) ||| BitVec.ofInt 64 (b : Int)).toNat : Int) = _
  rw [BitVec.toNat_or, ofInt_u64 a (by omega), ofInt_u64 b (by omega)]
  simp [IntKind.wrap, IntKind.bits, IntKind.signed]
  omega
theorem or_16_8 (b c : Nat) (hb : b < 256) (hc : c < 256) : bits .or .i64 ((b : Int) * 65536) ((c : Int) * 256) = ((b * 65536 + c * 256 : Nat) : Int) := by
  rw [show ((b : Int) * 65536) = ((b * 65536 : Nat) : Int) by omega, show ((c : Int) * 256) = ((c * 256 : Nat) : Int) by omega, i64_or_nat _ _ (by omega) (by omega), nat_join16 _ _ (by omega) (by omega)]
theorem or_low8 (m d : Nat) (hm : m < 4294967296) (h : m % 256 = 0) (hd : d < 256) : bits .or .i64 (m : Int) (d : Int) = ((m + d : Nat) : Int) := by
  rw [i64_or_nat _ _ (by omega) (by omega), nat_join8 _ _ h hd]
theorem or_8 (c d : Nat) (hc : c < 256) (hd : d < 256) : bits .or .i64 ((c : Int) * 256) (d : Int) = ((c * 256 + d : Nat) : Int) := by
  rw [show ((c : Int) * 256) = ((c * 256 : Nat) : Int) by omega]; exact or_low8 _ _ (by omega) (by omega) hd
theorem cell10 {w : World} {A : Option Addr} {b0 b1 b2 b3 b4 b5 b6 b7 b8 b9 : Nat} (h : RS BE w A 10 [b0, b1, b2, b3, b4, b5, b6, b7, b8, b9]) :
    ∃ ad, A = some ad ∧ ad.block < w.heap.size ∧ w.cell? ad = some (.int .u8 b0) ∧ w.cell? ⟨ad.block, ad.off + 1, none⟩ = some (.int .u8 b1) ∧ w.cell? ⟨ad.block, ad.off + 2, none⟩ = some (.int .u8 b2) ∧ w.cell? ⟨ad.block, ad.off + 3, none⟩ = some (.int .u8 b3) ∧
      w.cell? ⟨ad.block, ad.off + 4, none⟩ = some (.int .u8 b4) ∧ w.cell? ⟨ad.block, ad.off + 5, none⟩ = some (.int .u8 b5) ∧ w.cell? ⟨ad.block, ad.off + 6, none⟩ = some (.int .u8 b6) ∧ w.cell? ⟨ad.block, ad.off + 7, none⟩ = some (.int .u8 b7) ∧
      w.cell? ⟨ad.block, ad.off + 8, none⟩ = some (.int .u8 b8) ∧ w.cell? ⟨ad.block, ad.off + 9, none⟩ = some (.int .u8 b9) := by
  obtain ⟨ad, e, hb, hc⟩ := h.2 (by omega)
  exact ⟨ad, e, hb, hc 0 _ rfl, hc 1 _ rfl, hc 2 _ rfl, hc 3 _ rfl, hc 4 _ rfl, hc 5 _ rfl, hc 6 _ rfl, hc 7 _ rfl, hc 8 _ rfl, hc 9 _ rfl⟩

end Go.Proofs.Ytkcmbpokoijglaa

/- Events: the program's Decode. -/
set_option linter.unusedVariables false
set_option linter.unusedSimpArgs false
namespace Go.Proofs.Ytkcmbpokoijglaa
open Go.RowKit CoEv

def lenV : Value → Nat | .slice _ n _ => n | _ => 0
theorem tyE : Ty EE 55 90 56 := ⟨Try.underlying55, .agg #[.int .i64 0, .int .i64 0, .int .i64 0, .int .i64 0, .int .i64 0, .int .i64 0, .int .i64 0], by kernel_rfl, rfl⟩

theorem decE_big {b : List Nat} (h : 655360 < b.length) : decE b = 3 ∧ decL b = [] := by
  have h1 : decE b = 3 := by unfold decE; rw [if_pos h]
  exact ⟨h1, by unfold decL; rw [if_neg (by omega)]⟩
theorem decE_odd {b : List Nat} (h : ¬ 655360 < b.length) (h2 : b.length % 10 ≠ 0) : decE b = 4 ∧ decL b = [] := by
  have h1 : decE b = 4 := by unfold decE; rw [if_neg h, if_pos h2]
  exact ⟨h1, by unfold decL; rw [if_neg (by omega)]⟩
theorem decE_none {b : List Nat} (h : ¬ 655360 < b.length) (h2 : raws b = none) : decE b = 4 ∧ decL b = [] := by
  have h1 : decE b = 4 := by unfold decE; rw [if_neg h, h2]; split <;> rfl
  exact ⟨h1, by unfold decL; rw [if_neg (by omega)]⟩
theorem decE_some {b : List Nat} {l : List Ev} (h : ¬ 655360 < b.length) (h2 : raws b = some l) : decE b = chks l ∧ decL b = if chks l = 0 then l else [] := by
  have h0 := raws_len _ _ h2
  have h1 : decE b = chks l := by
    unfold decE; rw [if_neg h, if_neg (by omega), h2]
  refine ⟨h1, ?_⟩
  unfold decL
  rw [h1, h2]

end Go.Proofs.Ytkcmbpokoijglaa

/- Made events (cohesionmake): Event. -/
set_option linter.unusedVariables false
set_option linter.unusedSimpArgs false
namespace Go.Proofs.Ytkcmbpokoijglaa
open Go.RowKit CoEv

/-- Within Event: the deck, and nothing old else has changed. -/
def EW (w W : World) (g : Nat) : Prop := Dk W g ∧ w.grownBy W (some g) ∧ g < w.heap.size
theorem set7 {W : World} {r : Nat} {ty : TypeId} {x0 x1 x2 x3 x4 x5 x6 : Value} (h : Blk W r ty #[x0, x1, x2, x3, x4, x5, x6]) (a0 a1 a2 a3 a4 a5 a6 : Value) :
    Blk (((((((W.setCell ⟨r, 0, none⟩ a0).setCell ⟨r, 1, none⟩ a1).setCell ⟨r, 2, none⟩ a2).setCell ⟨r, 3, none⟩ a3).setCell ⟨r, 4, none⟩ a4).setCell ⟨r, 5, none⟩ a5).setCell ⟨r, 6, none⟩ a6) r ty #[a0, a1, a2, a3, a4, a5, a6] ∧ Below r W (((((((W.setCell ⟨r, 0, none⟩ a0).setCell ⟨r, 1, none⟩ a1).setCell ⟨r, 2, none⟩ a2).setCell ⟨r, 3, none⟩ a3).setCell ⟨r, 4, none⟩ a4).setCell ⟨r, 5, none⟩ a5).setCell ⟨r, 6, none⟩ a6) := by
  refine ⟨by simpa using ((((((h.set 0 a0).set 1 a1).set 2 a2).set 3 a3).set 4 a4).set 5 a5).set 6 a6, ?_⟩
  exact ((((((((Below.refl r W).setCell (p := ⟨r, 0, none⟩) (Nat.le_refl _) a0).setCell (p := ⟨r, 1, none⟩) (Nat.le_refl _) a1).setCell (p := ⟨r, 2, none⟩) (Nat.le_refl _) a2).setCell (p := ⟨r, 3, none⟩) (Nat.le_refl _) a3).setCell (p := ⟨r, 4, none⟩) (Nat.le_refl _) a4).setCell (p := ⟨r, 5, none⟩) (Nat.le_refl _) a5).setCell (p := ⟨r, 6, none⟩) (Nat.le_refl _) a6)
theorem chk_set {t u v w l s : Int} (ht : 0 ≤ t) (ht2 : t ≤ 1048576) (hu : 0 ≤ u ∧ u < 64) (hv : 0 ≤ v ∧ v < 64) (hne : u ≠ v) (hw : 1 ≤ w ∧ w ≤ 1000) (hl : 0 ≤ l ∧ l ≤ 15) (hs : s = 1 ∨ s = -1) : chk ⟨1, t, u, v, w, l, s⟩ = 0 := by
  unfold chk
  have h1 : endsB ⟨1, t, u, v, w, l, s⟩ = true := by unfold endsB; rw [if_neg (show ¬ (1 : Int) = 3 by omega)]; exact decide_eq_true ⟨hu, hv, hne⟩
  have h2 : rightB w l s = true := by unfold rightB; exact decide_eq_true ⟨hw.1, hw.2, hl.1, hl.2, hs⟩
  simp only [h1, h2]
  rw [if_neg (by omega), if_neg (by omega)]
  simp
theorem chk_cut {t u v : Int} (ht : 0 ≤ t) (ht2 : t ≤ 1048576) (hu : 0 ≤ u ∧ u < 64) (hv : 0 ≤ v ∧ v < 64) (hne : u ≠ v) : chk ⟨2, t, u, v, 0, 0, 0⟩ = 0 := by
  unfold chk
  have h1 : endsB ⟨2, t, u, v, 0, 0, 0⟩ = true := by unfold endsB; rw [if_neg (show ¬ (2 : Int) = 3 by omega)]; exact decide_eq_true ⟨hu, hv, hne⟩
  simp only [h1]
  rw [if_neg (by omega), if_neg (by omega)]
  simp
theorem chk_leave {t u : Int} (ht : 0 ≤ t) (ht2 : t ≤ 1048576) (hu : 0 ≤ u ∧ u < 64) : chk ⟨3, t, u, 0, 0, 0, 0⟩ = 0 := by
  unfold chk
  have h1 : endsB ⟨3, t, u, 0, 0, 0, 0⟩ = true := by unfold endsB; rw [if_pos rfl]; exact decide_eq_true ⟨hu, rfl⟩
  simp only [h1]
  rw [if_neg (by omega), if_neg (by omega)]
  simp
theorem other_end {u x n : Int} (hu : 0 ≤ u) (hun : u < n) (hx : 0 ≤ x) (hxn : x < n - 1) : 0 ≤ (u + 1 + x) % n ∧ (u + 1 + x) % n < n ∧ u ≠ (u + 1 + x) % n := by
  have h1 := Int.emod_nonneg (u + 1 + x) (show n ≠ 0 by omega)
  have h2 := Int.emod_lt_of_pos (u + 1 + x) (show 0 < n by omega)
  refine ⟨h1, h2, fun e => ?_⟩
  by_cases hlt : u + 1 + x < n
  · rw [Int.emod_eq_of_lt (by omega) hlt] at e; omega
  · have : (u + 1 + x) % n = u + 1 + x - n := by
      rw [← Int.sub_emod_right, Int.emod_eq_of_lt (by omega) (by omega)]
    omega

set_option maxRecDepth 100000 in
set_option maxHeartbeats 4000000 in
theorem mkevent_any (g : Nat) (n t : Int) (w : World) (h : Dk w g) (hn : 2 ≤ n) (hn2 : n ≤ 64) (ht : 0 ≤ t) (ht2 : t ≤ 1048576) :
    Calls Try.prog 60 #[.pointer (some ⟨g, 0, none⟩), .int .i64 n, .int .i64 t] w fun e w' => ∃ ev : Ev, e = .returned (evV ev) ∧ chk ev = 0 ∧ Dk w' g ∧ w.grownBy w' (some g) := by
  have k1 := Lib.hid fun w h => next_any g n w h (by omega)
  have k2 := Lib.hid fun w h => next_any g (n - 1) w h (by omega)
  have k3 := Lib.hid fun w h => next_any g 10 w h (by omega)
  have k4 := Lib.hid fun w h => next_any g 6 w h (by omega)
  have k5 := Lib.hid fun w h => next_any g 4 w h (by omega)
  have k6 := Lib.hid fun w h => next_any g 2 w h (by omega)
  have hgl := h.lt
  have hb0 : w.grownBy (w.alloc (.cells #[.int .i64 0, .int .i64 0, .int .i64 0, .int .i64 0, .int .i64 0, .int .i64 0, .int .i64 0] 90)) (some g) := grown_below (World.grownBy.refl w _) ((Below.refl _ _).alloc (Nat.le_refl _) _) (Nat.le_refl _)
  have hR0 := Blk.new w 90 #[.int .i64 0, .int .i64 0, .int .i64 0, .int .i64 0, .int .i64 0, .int .i64 0, .int .i64 0]
  go_enter Try.func60, Try.ntmps60
  go_wp2_with fail
  (with_reducible refine (k1.out _ (h.alloc _)).mono ?_)
  rintro e w1 ⟨u, rfl, hu0, hu1, _, hD1, hg1⟩
  replace hu1 := hu1 (by omega)
  have hR1 := hR0.grown hg1 (by intro e; injection e with e; omega)
  have hg1' := grown_trans hb0 hg1
  have hs1 : w.heap.size < w1.heap.size := hR1.lt
  clear hR0 hg1 hb0
  go_upto_region 2 with fail
  have hE2 := Blk.new w1 90 #[.int .i64 1, .int .i64 t, .int .i64 u, .int .i64 0, .int .i64 0, .int .i64 0, .int .i64 0]
  have hR2 := hR1.alloc (.cells #[.int .i64 1, .int .i64 t, .int .i64 u, .int .i64 0, .int .i64 0, .int .i64 0, .int .i64 0] 90)
  have hD2 := hD1.alloc (.cells #[.int .i64 1, .int .i64 t, .int .i64 u, .int .i64 0, .int .i64 0, .int .i64 0, .int .i64 0] 90)
  have hg2 := grown_below hg1' ((Below.refl w1.heap.size w1).alloc (Nat.le_refl _) (.cells #[.int .i64 1, .int .i64 t, .int .i64 u, .int .i64 0, .int .i64 0, .int .i64 0, .int .i64 0] 90)) (by omega)
  clear hR1 hD1 hg1'
  have hge : w1.heap.size ≠ g := by omega
  generalize w1.alloc (.cells #[.int .i64 1, .int .i64 t, .int .i64 u, .int .i64 0, .int .i64 0, .int .i64 0, .int .i64 0] 90) = w2 at *
  have hgE : w.heap.size < w1.heap.size := hs1
  have hle := hE2.lt
  generalize w1.heap.size = ge at *
  have e2 := (Blk.cell hE2 2).trans rfl
  have q1 : IntKind.i64.wrap (u + 1) = u + 1 := by rw [IntKind.wrap_i64]; omega
  have q2 : IntKind.i64.wrap (n - 1) = n - 1 := by rw [IntKind.wrap_i64]; omega
  have qn : ¬ n = 0 := by omega
  have qn' : (n != 0) = true := by simp; omega
  go_loud (go_region_held3 (fun w' => w'.cell? ⟨ge, 2, none⟩ = some (.int .i64 u)) (first | exact e2 | exact e3 | exact (World.cell?_setCell_other _ _ _ _ (by simp)).trans e3)
    ((first
      | (go_at_call 26; (with_reducible refine (k2.out _ hD2.drew).mono ?_); rintro e w3 ⟨x, rfl, hx0, hx1, _, hD3, hg3⟩; have hE3 := hE2.drew.grown hg3 (by intro e; injection e with e; omega); have e3 := (Blk.cell hE3 2).trans rfl; have qx : IntKind.i64.wrap (u + 1 + x) = u + 1 + x := (by rw [IntKind.wrap_i64]; have := hx1 (by omega); omega); have qm : (u + 1 + x).tmod n = (u + 1 + x) % n := (by rw [Int.tmod_eq_emod_of_nonneg (by omega)]); have y3 := (Blk.cell hE3 3).trans rfl; have z3 := Blk.frozen hE3 3))))
  replace hx1 := hx1 (by omega)
  obtain ⟨hv0, hv1, hvne⟩ := other_end hu0 hu1 hx0 hx1
  have hE4 := hE3.set 3 (.int .i64 ((u + 1 + x) % n))
  simp at hE4
  have hR4 := (hR2.drew.grown hg3 (by intro e; injection e with e; omega)).far (p := ⟨ge, 3, none⟩) (by simp; omega) (.int .i64 ((u + 1 + x) % n))
  have hD4 := hD3.below ((Below.refl ge w3).setCell (p := ⟨ge, 3, none⟩) (Nat.le_refl _) (.int .i64 ((u + 1 + x) % n))) (by omega)
  have hg4 := grown_below (grown_trans (grown_drew hg2) hg3) ((Below.refl ge w3).setCell (p := ⟨ge, 3, none⟩) (Nat.le_refl _) (.int .i64 ((u + 1 + x) % n))) (by omega)
  clear e2 e3 hE3 hE2 hR2 hD2 hD3 hg2 hg3 y3 z3 q1 q2 qx qm hx0 hx1
  generalize w3.setCell ⟨ge, 3, none⟩ (.int .i64 ((u + 1 + x) % n)) = w4 at *
  generalize (u + 1 + x) % n = v at *
  go_wp2_with fail
  (with_reducible refine (k3.out _ hD4).mono ?_)
  rintro e w5 ⟨k, rfl, hk0, hk1, _, hD5, hg5⟩
  have hE5 := hE4.grown hg5 (by intro e; injection e with e; omega)
  have hR5 := hR4.grown hg5 (by intro e; injection e with e; omega)
  have hg5' := grown_trans hg4 hg5
  clear hE4 hR4 hD4 hg4 hg5
  have e0 := (Blk.cell hE5 0).trans rfl
  have e1 := (Blk.cell hE5 1).trans rfl
  have e2 := (Blk.cell hE5 2).trans rfl
  have e3 := (Blk.cell hE5 3).trans rfl
  have e4 := (Blk.cell hE5 4).trans rfl
  have e5 := (Blk.cell hE5 5).trans rfl
  have e6 := (Blk.cell hE5 6).trans rfl
  have f0 := Blk.frozen hE5 0
  have f1 := Blk.frozen hE5 1
  have f2 := Blk.frozen hE5 2
  have f3 := Blk.frozen hE5 3
  have f4 := Blk.frozen hE5 4
  have f5 := Blk.frozen hE5 5
  have f6 := Blk.frozen hE5 6
  have r0 := (Blk.cell hR5 0).trans rfl
  have r1 := (Blk.cell hR5 1).trans rfl
  have r2 := (Blk.cell hR5 2).trans rfl
  have r3 := (Blk.cell hR5 3).trans rfl
  have r4 := (Blk.cell hR5 4).trans rfl
  have r5 := (Blk.cell hR5 5).trans rfl
  have r6 := (Blk.cell hR5 6).trans rfl
  have s0 := Blk.frozen hR5 0
  have s1 := Blk.frozen hR5 1
  have s2 := Blk.frozen hR5 2
  have s3 := Blk.frozen hR5 3
  have s4 := Blk.frozen hR5 4
  have s5 := Blk.frozen hR5 5
  have s6 := Blk.frozen hR5 6
  have hk1' := hk1 (by omega)
  have hne1 : ¬ w.heap.size = ge := by omega
  have hne2 : ¬ ge = w.heap.size := by omega
  by_cases h8 : 8 ≤ k
  · have p8 : decide (8 ≤ k) = true := by simp; omega
    go_wp2_with fail
    obtain ⟨hRZ, hBZ⟩ := set7 hR5 (.int .i64 3) (.int .i64 t) (.int .i64 u) (.int .i64 0) (.int .i64 0) (.int .i64 0) (.int .i64 0)
    have hDZ := hD5.below hBZ hgl
    have hGZ := grown_below hg5' hBZ (Nat.le_refl _)
    have o0 := (Blk.cell hRZ 0).trans rfl
    have o1 := (Blk.cell hRZ 1).trans rfl
    have o2 := (Blk.cell hRZ 2).trans rfl
    have o3 := (Blk.cell hRZ 3).trans rfl
    have o4 := (Blk.cell hRZ 4).trans rfl
    have o5 := (Blk.cell hRZ 5).trans rfl
    have o6 := (Blk.cell hRZ 6).trans rfl
    refine bodyPost_ret (v := .agg #[.int .i64 3, .int .i64 t, .int .i64 u, .int .i64 0, .int .i64 0, .int .i64 0, .int .i64 0]) (by simp [results, Try.results60, go_sem, o0, o1, o2, o3, o4, o5, o6]) rfl ?_
    exact ⟨⟨3, t, u, 0, 0, 0, 0⟩, rfl, chk_leave ht ht2 ⟨hu0, by omega⟩, hDZ, hGZ⟩
  · have p8 : decide (8 ≤ k) = false := by simp; omega
    by_cases h5 : 5 ≤ k
    · have p5 : decide (5 ≤ k) = true := by simp; omega
      go_wp2_with fail
      obtain ⟨hRZ, hBZ⟩ := set7 hR5 (.int .i64 2) (.int .i64 t) (.int .i64 u) (.int .i64 v) (.int .i64 0) (.int .i64 0) (.int .i64 0)
      have hDZ := hD5.below hBZ hgl
      have hGZ := grown_below hg5' hBZ (Nat.le_refl _)
      have o0 := (Blk.cell hRZ 0).trans rfl
      have o1 := (Blk.cell hRZ 1).trans rfl
      have o2 := (Blk.cell hRZ 2).trans rfl
      have o3 := (Blk.cell hRZ 3).trans rfl
      have o4 := (Blk.cell hRZ 4).trans rfl
      have o5 := (Blk.cell hRZ 5).trans rfl
      have o6 := (Blk.cell hRZ 6).trans rfl
      refine bodyPost_ret (v := .agg #[.int .i64 2, .int .i64 t, .int .i64 u, .int .i64 v, .int .i64 0, .int .i64 0, .int .i64 0]) (by simp [results, Try.results60, go_sem, o0, o1, o2, o3, o4, o5, o6]) rfl ?_
      exact ⟨⟨2, t, u, v, 0, 0, 0⟩, rfl, chk_cut ht ht2 ⟨hu0, by omega⟩ ⟨hv0, by omega⟩ hvne, hDZ, hGZ⟩
    · have p5 : decide (5 ≤ k) = false := by simp; omega
      go_wp2_with fail
      clear e0 e1 e2 e3 e4 e5 e6 f0 f1 f2 f3 f4 f5 f6 r0 r1 r2 r3 r4 r5 r6 s0 s1 s2 s3 s4 s5 s6
      (with_reducible refine (k4.out _ hD5).mono ?_)
      rintro e w6 ⟨y, rfl, hy0, hy1, _, hD6, hg6⟩
      replace hy1 := hy1 (by omega)
      have hE6 := hE5.grown hg6 (by intro e; injection e with e; omega)
      have hR6 := hR5.grown hg6 (by intro e; injection e with e; omega)
      have hg6' := grown_trans hg5' hg6
      clear hg6
      go_wp2_with fail
      (with_reducible refine (k5.out _ hD6).mono ?_)
      rintro e w7 ⟨z, rfl, hz0, hz1, _, hD7, hg7⟩
      replace hz1 := hz1 (by omega)
      have hE7 := hE6.grown hg7 (by intro e; injection e with e; omega)
      have hR7 := hR6.grown hg7 (by intro e; injection e with e; omega)
      have hg7' := grown_trans hg6' hg7
      clear hg7
      go_wp2_with fail
      (with_reducible refine (k6.out _ hD7).mono ?_)
      rintro e w8 ⟨q, rfl, hq0, hq1, _, hD8, hg8⟩
      replace hq1 := hq1 (by omega)
      have hE8 := hE7.grown hg8 (by intro e; injection e with e; omega)
      have hR8 := hR7.grown hg8 (by intro e; injection e with e; omega)
      have hg8' := grown_trans hg7' hg8
      clear hg8
      have e0 := (Blk.cell hE8 0).trans rfl
      have e1 := (Blk.cell hE8 1).trans rfl
      have e2 := (Blk.cell hE8 2).trans rfl
      have e3 := (Blk.cell hE8 3).trans rfl
      have e4 := (Blk.cell hE8 4).trans rfl
      have e5 := (Blk.cell hE8 5).trans rfl
      have e6 := (Blk.cell hE8 6).trans rfl
      have f0 := Blk.frozen hE8 0
      have f1 := Blk.frozen hE8 1
      have f2 := Blk.frozen hE8 2
      have f3 := Blk.frozen hE8 3
      have f4 := Blk.frozen hE8 4
      have f5 := Blk.frozen hE8 5
      have f6 := Blk.frozen hE8 6
      have hE9 := ((hE8.set 4 (.int .i64 (1 + y))).set 5 (.int .i64 z)).set 6 (.int .i64 (1 - 2 * q))
      simp at hE9
      have hb9 : Below ge w8 (((w8.setCell ⟨ge, 4, none⟩ (.int .i64 (1 + y))).setCell ⟨ge, 5, none⟩ (.int .i64 z)).setCell ⟨ge, 6, none⟩ (.int .i64 (1 - 2 * q))) := (((Below.refl ge w8).setCell (p := ⟨ge, 4, none⟩) (Nat.le_refl _) _).setCell (p := ⟨ge, 5, none⟩) (Nat.le_refl _) _).setCell (p := ⟨ge, 6, none⟩) (Nat.le_refl _) _
      have hR9 := hR8.below hb9 hgE
      have hD9 := hD8.below hb9 (by omega)
      have hg9 := grown_below hg8' hb9 (by omega)
      go_upto_region 9 with fail
      clear e0 e1 e2 e3 e4 e5 e6 f0 f1 f2 f3 f4 f5 f6 hE8 hR8 hD8 hg8' hb9 hE7 hR7 hE6 hR6 hE5 hR5
      generalize ((w8.setCell ⟨ge, 4, none⟩ (.int .i64 (1 + y))).setCell ⟨ge, 5, none⟩ (.int .i64 z)).setCell ⟨ge, 6, none⟩ (.int .i64 (1 - 2 * q)) = w9 at *
      have e0 := (Blk.cell hE9 0).trans rfl
      have e1 := (Blk.cell hE9 1).trans rfl
      have e2 := (Blk.cell hE9 2).trans rfl
      have e3 := (Blk.cell hE9 3).trans rfl
      have e4 := (Blk.cell hE9 4).trans rfl
      have e5 := (Blk.cell hE9 5).trans rfl
      have e6 := (Blk.cell hE9 6).trans rfl
      have r0 := (Blk.cell hR9 0).trans rfl
      have r1 := (Blk.cell hR9 1).trans rfl
      have r2 := (Blk.cell hR9 2).trans rfl
      have r3 := (Blk.cell hR9 3).trans rfl
      have r4 := (Blk.cell hR9 4).trans rfl
      have r5 := (Blk.cell hR9 5).trans rfl
      have r6 := (Blk.cell hR9 6).trans rfl
      have s0 := Blk.frozen hR9 0
      have s1 := Blk.frozen hR9 1
      have s2 := Blk.frozen hR9 2
      have s3 := Blk.frozen hR9 3
      have s4 := Blk.frozen hR9 4
      have s5 := Blk.frozen hR9 5
      have s6 := Blk.frozen hR9 6
      go_wp2_with fail
      obtain ⟨hRZ, hBZ⟩ := set7 hR9 (.int .i64 (1)) (.int .i64 (t)) (.int .i64 (u)) (.int .i64 (v)) (.int .i64 (1 + y)) (.int .i64 (z)) (.int .i64 (1 - 2 * q))
      have hDZ := hD9.below hBZ hgl
      have hGZ := grown_below hg9 hBZ (Nat.le_refl _)
      have o0 := (Blk.cell hRZ 0).trans rfl
      have o1 := (Blk.cell hRZ 1).trans rfl
      have o2 := (Blk.cell hRZ 2).trans rfl
      have o3 := (Blk.cell hRZ 3).trans rfl
      have o4 := (Blk.cell hRZ 4).trans rfl
      have o5 := (Blk.cell hRZ 5).trans rfl
      have o6 := (Blk.cell hRZ 6).trans rfl
      refine bodyPost_ret (v := .agg #[.int .i64 (1), .int .i64 (t), .int .i64 (u), .int .i64 (v), .int .i64 (1 + y), .int .i64 (z), .int .i64 (1 - 2 * q)]) (by simp [results, Try.results60, go_sem, o0, o1, o2, o3, o4, o5, o6]) rfl ?_
      exact ⟨⟨1, t, u, v, 1 + y, z, 1 - 2 * q⟩, rfl, chk_set ht ht2 ⟨hu0, by omega⟩ ⟨hv0, by omega⟩ hvne ⟨by omega, by omega⟩ ⟨by omega, by omega⟩ (by omega), hDZ, hGZ⟩
end Go.Proofs.Ytkcmbpokoijglaa

/- Made lists of events (cohesionmake): Mixed, Events. -/
set_option linter.unusedVariables false
set_option linter.unusedSimpArgs false
namespace Go.Proofs.Ytkcmbpokoijglaa
open Go.RowKit CoEv

/-- The call returns new events, all right, and turns the deck alone. -/
def RetDE (w : World) (g : Nat) (most : Nat) (e : Ending) (w' : World) : Prop := ∃ A n c xs, e = .returned (.slice A n c) ∧ n ≤ c ∧ RS EE w' A n xs ∧ xs.length ≤ most ∧ (∀ ev ∈ xs, chk ev = 0) ∧ Dk w' g ∧ w.grownBy w' (some g) ∧ Fr w.heap.size A
theorem OS.own_ne {α : Type} {E : El α} {t : TypeId} {w : World} {B g : Nat} {v : Value} {xs : List α} (h : OS E t w B v xs) (hg : g < B) : v.ownBlock = none ∨ v.ownBlock ≠ some g := by
  cases hv : v.ownBlock with
  | none => exact .inl rfl
  | some k => exact .inr (fun e => by injection e with e; have := (h.block_lt k hv).1; omega)
theorem all_snoc {xs : List Ev} {e : Ev} (h : ∀ ev ∈ xs, chk ev = 0) (he : chk e = 0) : ∀ ev ∈ xs ++ [e], chk ev = 0 := fun ev hv => by
  rcases List.mem_append.1 hv with h1 | h1
  · exact h ev h1
  · rw [List.mem_singleton] at h1; rw [h1]; exact he

set_option maxRecDepth 100000 in
set_option maxHeartbeats 4000000 in
theorem mkevents_any (g : Nat) (n : Int) (most : Nat) (w : World) (h : Dk w g) (hn : 2 ≤ n) (hn2 : n ≤ 64) (hm : most ≤ 1000) :
    Calls Try.prog 34 #[.pointer (some ⟨g, 0, none⟩), .int .i64 n, .int .i64 most] w (RetDE w g most) := by
  have k1 := Lib.hid fun w h => next_any g ((most : Int) + 1) w h (by omega)
  have k4 := Lib.hid fun w h => next_any g 4 w h (by omega)
  have k7 := Lib.hid fun w h => next_any g 7 w h (by omega)
  have k3 := Lib.hid fun w h => next_any g 3 w h (by omega)
  have ke : Hid (∀ (t : Int) w, Dk w g → 0 ≤ t → t ≤ 1048576 → Calls Try.prog 60 #[.pointer (some ⟨g, 0, none⟩), .int .i64 n, .int .i64 t] w fun e w' => ∃ a1 a2 a3 a4 a5 a6 a7 : Int, e = .returned (.agg #[.int .i64 a1, .int .i64 a2, .int .i64 a3, .int .i64 a4, .int .i64 a5, .int .i64 a6, .int .i64 a7]) ∧ chk ⟨a1, a2, a3, a4, a5, a6, a7⟩ = 0 ∧ Dk w' g ∧ w.grownBy w' (some g)) :=
    Lib.hid fun t w h ht ht2 => (mkevent_any g n t w h hn hn2 ht ht2).mono fun e w' ⟨ev, h1, h2, h3⟩ => ⟨ev.k, ev.t, ev.u, ev.v, ev.w, ev.l, ev.s, h1, h2, h3⟩
  have hgl := h.lt
  have p2 : decide (1 < n) = true := by simp; omega
  go_enter Try.func34, Try.ntmps34
  go_wp2_with fail
  (with_reducible refine (k4.out _ h).mono ?_)
  rintro e w0 ⟨t0, rfl, ht0, ht1, _, hD0, hg0⟩
  replace ht1 := ht1 (by omega)
  go_wp2_with fail
  (with_reducible refine (k1.out _ hD0).mono ?_)
  rintro e w1 ⟨k0, rfl, hk0, hk1, _, hD1, hg1⟩
  replace hk1 := hk1 (by omega)
  have hg1' := grown_trans hg0 hg1
  go_wp2_with fail
  go_loopw [7, 8, 9] (fun o t k wr => ∃ (v : Value) (tt kk : Int) (L : List Ev), v = o ∧ t = .int .i64 tt ∧ k = .int .i64 kk ∧ 0 ≤ tt ∧ tt ≤ 5 + 3 * (L.length : Int) ∧ 0 ≤ kk ∧ (L.length : Int) + kk ≤ (most : Int) ∧ OS EE 90 wr w.heap.size v L ∧ Hid (∀ ev ∈ L, chk ev = 0) ∧ Dk wr g ∧ w.grownBy wr (some g)) (fun _ _ k _ => (intOf k).toNat)
  case atStart => exact ⟨_, t0, k0, [], rfl, rfl, rfl, by omega, by simp; omega, hk0, by simp; omega, OS.nil_, Lib.hid (fun _ h => by cases h), hD1, hg1'⟩
  case round =>
    clear hD1 hg1'
    obtain ⟨v, tt, kk, L, rfl, rfl, rfl, ht0, ht1, hkk0, hlen, ho, hall, hD, hg⟩ := hrel
    have hs := hg.size
    by_cases hlt : 0 < kk
    · have q1 : decide (0 < kk) = true := by simpa using hlt
      go_wp2_with fail
      (with_reducible refine (ke.out tt _ hD ht0 (by omega)).mono ?_)
      rintro e w3 ⟨a1, a2, a3, a4, a5, a6, a7, rfl, hev, hD3, hg3⟩
      replace hev := Lib.hid hev
      have ho3 := ho.kept hg3 (ho.own_ne hgl)
      have hg3' := grown_trans hg hg3
      have hs3 := hg3'.size
      clear hD hg hg3 ho
      go_wp2_with (at_builtin; (refine wpList_push1G tyE (y := ⟨a1, a2, a3, a4, a5, a6, a7⟩) rfl rfl _ _ rfl rfl rfl rfl ho3 (by omega) (by omega) hs3 ?_); intro v4 w4 ho4 hb4 hg4x)
      have hD4 := hD3.below hb4 hgl
      have hg4 := grown_below hg3' hb4 (Nat.le_refl _)
      have hall4 := Lib.hid (all_snoc hall.out hev.out)
      clear hD3 hg3' hb4 hg4x ho3
      (with_reducible refine (k4.out _ hD4).mono ?_)
      rintro e w5 ⟨y, rfl, hy0, hy1, _, hD5, hg5⟩
      replace hy1 := hy1 (by omega)
      have ho5 := ho4.kept hg5 (ho4.own_ne hgl)
      have hg5' := grown_trans hg4 hg5
      clear hD4 hg4 hg5 ho4 hall
      go_wp2_with fail
      go_roundw
      case rel => exact ⟨_, tt + y, kk - 1, _, rfl, by go_num, by go_num, by omega, by simp; omega, by omega, by simp; omega, ho5, hall4, hD5, hg5'⟩
      case measure => simp [intOf]; omega
    · have hk0' : kk = 0 := by omega
      subst hk0'
      obtain ⟨A, n', c, rfl, hn', hc, _, hr, hf⟩ := ho.form
      replace hn' := Lib.hid hn'
      go_wp2_with fail
      go_ret
      exact ⟨A, n', c, L, rfl, hc, hr, by omega, hall.out, hD, hg, hf⟩

set_option maxRecDepth 100000 in
set_option maxHeartbeats 4000000 in
theorem mkmixed_any (g : Nat) (n : Int) (most : Nat) (w : World) (h : Dk w g) (hn : 2 ≤ n) (hn2 : n ≤ 64) (hm : most ≤ 1000) :
    Calls Try.prog 35 #[.pointer (some ⟨g, 0, none⟩), .int .i64 n, .int .i64 most] w (RetDE w g most) := by
  have k1 := Lib.hid fun w h => next_any g ((most : Int) + 1) w h (by omega)
  have k4 := Lib.hid fun w h => next_any g 4 w h (by omega)
  have k7 := Lib.hid fun w h => next_any g 7 w h (by omega)
  have k3 := Lib.hid fun w h => next_any g 3 w h (by omega)
  have ke : Hid (∀ (t : Int) w, Dk w g → 0 ≤ t → t ≤ 1048576 → Calls Try.prog 60 #[.pointer (some ⟨g, 0, none⟩), .int .i64 n, .int .i64 t] w fun e w' => ∃ a1 a2 a3 a4 a5 a6 a7 : Int, e = .returned (.agg #[.int .i64 a1, .int .i64 a2, .int .i64 a3, .int .i64 a4, .int .i64 a5, .int .i64 a6, .int .i64 a7]) ∧ chk ⟨a1, a2, a3, a4, a5, a6, a7⟩ = 0 ∧ Dk w' g ∧ w.grownBy w' (some g)) :=
    Lib.hid fun t w h ht ht2 => (mkevent_any g n t w h hn hn2 ht ht2).mono fun e w' ⟨ev, h1, h2, h3⟩ => ⟨ev.k, ev.t, ev.u, ev.v, ev.w, ev.l, ev.s, h1, h2, h3⟩
  have hgl := h.lt
  have p2 : decide (1 < n) = true := by simp; omega
  go_enter Try.func35, Try.ntmps35
  go_wp2_with fail
  (with_reducible refine (k1.out _ h).mono ?_)
  rintro e w1 ⟨k0, rfl, hk0, hk1, _, hD1, hg1'⟩
  replace hk1 := hk1 (by omega)
  go_wp2_with fail
  go_loopw [7, 8, 9] (fun o t k wr => ∃ (v : Value) (tt kk : Int) (L : List Ev), v = o ∧ t = .int .i64 tt ∧ k = .int .i64 kk ∧ 0 ≤ tt ∧ tt ≤ 5 + 3 * (L.length : Int) ∧ 0 ≤ kk ∧ (L.length : Int) + kk ≤ (most : Int) ∧ OS EE 90 wr w.heap.size v L ∧ Hid (∀ ev ∈ L, chk ev = 0) ∧ Dk wr g ∧ w.grownBy wr (some g)) (fun _ _ k _ => (intOf k).toNat)
  case atStart => exact ⟨_, 5, k0, [], rfl, rfl, rfl, by omega, by simp, hk0, by simp; omega, OS.nil_, Lib.hid (fun _ h => by cases h), hD1, hg1'⟩
  case round =>
    clear hD1 hg1'
    obtain ⟨v, tt, kk, L, rfl, rfl, rfl, ht0, ht1, hkk0, hlen, ho, hall, hD, hg⟩ := hrel
    have hs := hg.size
    by_cases hlt : 0 < kk
    · have q1 : decide (0 < kk) = true := by simpa using hlt
      go_wp2_with fail
      (with_reducible refine (k7.out _ hD).mono ?_)
      rintro e w2 ⟨x, rfl, hx0, hx1, _, hD2, hg2⟩
      replace hx1 := hx1 (by omega)
      have ho2 := ho.kept hg2 (ho.own_ne hgl)
      have hg2' := grown_trans hg hg2
      clear hD hg hg2 ho
      go_wp2_with fail
      all_goals
        (with_reducible refine (ke.out _ _ hD2 (by omega) (by omega)).mono ?_)
        rintro e w3 ⟨a1, a2, a3, a4, a5, a6, a7, rfl, hev, hD3, hg3⟩
        replace hev := Lib.hid hev
        have ho3 := ho2.kept hg3 (ho2.own_ne hgl)
        have hg3' := grown_trans hg2' hg3
        have hs3 := hg3'.size
        clear hD2 hg2' hg3 ho2
        go_wp2_with (at_builtin; (refine wpList_push1G tyE (y := ⟨a1, a2, a3, a4, a5, a6, a7⟩) rfl rfl _ _ rfl rfl rfl rfl ho3 (by omega) (by omega) hs3 ?_); intro v4 w4 ho4 hb4 hg4x)
        have hD4 := hD3.below hb4 hgl
        have hg4 := grown_below hg3' hb4 (Nat.le_refl _)
        have hall4 := Lib.hid (all_snoc hall.out hev.out)
        clear hD3 hg3' hb4 hg4x ho3
        (with_reducible refine (k3.out _ hD4).mono ?_)
        rintro e w5 ⟨y, rfl, hy0, hy1, _, hD5, hg5⟩
        replace hy1 := hy1 (by omega)
        have ho5 := ho4.kept hg5 (ho4.own_ne hgl)
        have hg5' := grown_trans hg4 hg5
        clear hD4 hg4 hg5 ho4 hall
        go_wp2_with fail
        go_roundw
        case rel => exact ⟨_, tt + y, kk - 1, _, rfl, by go_num, by go_num, by omega, by simp; omega, by omega, by simp; omega, ho5, hall4, hD5, hg5'⟩
        case measure => simp [intOf]; omega
    · have hk0' : kk = 0 := by omega
      subst hk0'
      obtain ⟨A, n', c, rfl, hn', hc, _, hr, hf⟩ := ho.form
      replace hn' := Lib.hid hn'
      go_wp2_with fail
      go_ret
      exact ⟨A, n', c, L, rfl, hc, hr, by omega, hall.out, hD, hg, hf⟩
end Go.Proofs.Ytkcmbpokoijglaa
