/- Plain: events, their errors, their bytes; the sum of bytes. -/
import Derived.Test.YtbaebeackbciaaaRows
import Derived.PlainAid
set_option linter.unusedVariables false
namespace CoEv

/-- An event: kind, time, the two nodes, weight, label, sign. -/
structure Ev where
  k : Int
  t : Int
  u : Int
  v : Int
  w : Int
  l : Int
  s : Int
  deriving DecidableEq

def nodeB (v : Int) : Bool := decide (0 ≤ v ∧ v < 64)
def endsB (e : Ev) : Bool := if e.k = 3 then decide ((0 ≤ e.u ∧ e.u < 64) ∧ e.v = 0) else decide ((0 ≤ e.u ∧ e.u < 64) ∧ (0 ≤ e.v ∧ e.v < 64) ∧ e.u ≠ e.v)
def rightB (w l s : Int) : Bool := decide (1 ≤ w ∧ w ≤ 1000 ∧ 0 ≤ l ∧ l ≤ 15 ∧ (s = 1 ∨ s = -1))
/-- The first error of an event. -/
def chk (e : Ev) : Int :=
  if e.k < 1 ∨ e.k > 3 then 8 else if e.t < 0 ∨ e.t > 1048576 then 9 else if endsB e = false then 6
  else if e.k = 1 then (if rightB e.w e.l e.s then 0 else 1) else if e.w ≠ 0 ∨ e.l ≠ 0 ∨ e.s ≠ 0 then 1 else 0
/-- The first error of events. -/
def first (l : List Ev) : Int := match l with | [] => 0 | e :: r => if chk e = 0 then first r else chk e
def chks (l : List Ev) : Int := if l.length > 65536 then 3 else first l
theorem first_append (a b : List Ev) : first (a ++ b) = if first a = 0 then first b else first a := by
  induction a with
  | nil => simp [first]
  | cons e r ih => simp only [List.cons_append, first]; split <;> simp_all
theorem first_all {l : List Ev} (h : first l = 0) : ∀ e ∈ l, chk e = 0 := by
  induction l with
  | nil => simp
  | cons e r ih =>
    intro x hx
    unfold first at h
    split at h
    · rcases List.mem_cons.1 hx with rfl | hx
      · assumption
      · exact ih h x hx
    · rename_i hne; exact absurd h hne
theorem first_zero {l : List Ev} (h : ∀ e ∈ l, chk e = 0) : first l = 0 := by
  induction l with
  | nil => rfl
  | cons e r ih => unfold first; rw [if_pos (h e (by simp))]; exact ih fun x hx => h x (by simp [hx])
theorem first_take {l : List Ev} {i : Nat} {e : Ev} (h0 : first (l.take i) = 0) (h : l[i]? = some e) : first (l.take (i + 1)) = chk e := by
  rw [List.take_add_one, h, first_append, if_pos h0]
  show first [e] = _
  unfold first; split
  · rename_i hz; rw [hz]; rfl
  · rfl
theorem first_stop {l : List Ev} {i : Nat} {e : Ev} (h0 : first (l.take i) = 0) (h : l[i]? = some e) (hne : chk e ≠ 0) : first l = chk e := by
  have h1 := first_take h0 h
  rw [← List.take_append_drop (i + 1) l, first_append, h1, if_neg hne]

/-- What a valid event looks like. -/
theorem chk_bd {e : Ev} (h : chk e = 0) : (1 ≤ e.k ∧ e.k ≤ 3) ∧ (0 ≤ e.t ∧ e.t ≤ 1048576) ∧ (0 ≤ e.u ∧ e.u < 64) ∧ (0 ≤ e.v ∧ e.v < 64) ∧ (0 ≤ e.w ∧ e.w ≤ 1000) ∧ (0 ≤ e.l ∧ e.l ≤ 15) ∧
    (e.k = 1 → e.s = 1 ∨ e.s = -1) ∧ (e.k ≠ 1 → e.s = 0) := by
  unfold chk at h
  split at h
  · omega
  split at h
  · omega
  split at h
  · omega
  rename_i h1 h2 h3
  have h3' : endsB e = true := by simpa using h3
  unfold endsB at h3'
  have hv : (0 ≤ e.u ∧ e.u < 64) ∧ (0 ≤ e.v ∧ e.v < 64) := by
    split at h3'
    · have := of_decide_eq_true h3'; omega
    · have := of_decide_eq_true h3'; omega
  split at h
  · split at h
    · rename_i h4 h5
      have := of_decide_eq_true (show decide _ = true from h5)
      refine ⟨by omega, by omega, hv.1, hv.2, by omega, by omega, fun _ => this.2.2.2.2, fun hn => absurd h4 hn⟩
    · omega
  · split at h
    · omega
    · rename_i h4 h5
      have hw : e.w = 0 := by omega
      have hl : e.l = 0 := by omega
      have hs : e.s = 0 := by omega
      exact ⟨by omega, by omega, hv.1, hv.2, by omega, by omega, fun hn => absurd hn h4, fun _ => hs⟩

/-- The ten bytes of an event. -/
def enc (e : Ev) : List Nat :=
  [(e.k % 256).toNat, (e.t / 65536 % 256).toNat, (e.t / 256 % 256).toNat, (e.t % 256).toNat, (e.u % 256).toNat, (e.v % 256).toNat, (e.w / 256 % 256).toNat, (e.w % 256).toNat, (e.l % 256).toNat, if e.s = -1 then 1 else 0]
def encs (l : List Ev) : List Nat := l.flatMap enc
theorem enc_len (e : Ev) : (enc e).length = 10 := rfl
theorem encs_nil : encs [] = [] := rfl
theorem encs_cons (e : Ev) (l : List Ev) : encs (e :: l) = enc e ++ encs l := rfl
theorem encs_append (a b : List Ev) : encs (a ++ b) = encs a ++ encs b := by simp [encs]
theorem encs_len (l : List Ev) : (encs l).length = l.length * 10 := by
  induction l with
  | nil => rfl
  | cons e r ih => rw [encs_cons, List.length_append, enc_len, ih, List.length_cons]; omega
def Byt (l : List Nat) : Prop := ∀ x ∈ l, x < 256
theorem Byt.append {a b : List Nat} (h : Byt a) (h' : Byt b) : Byt (a ++ b) := fun x hx => by
  rcases List.mem_append.1 hx with h1 | h1
  · exact h x h1
  · exact h' x h1
theorem Byt.of_append {a b : List Nat} (h : Byt (a ++ b)) : Byt a ∧ Byt b := ⟨fun x hx => h x (by simp [hx]), fun x hx => h x (by simp [hx])⟩
theorem Byt.take {a : List Nat} (h : Byt a) (k : Nat) : Byt (a.take k) := fun x hx => h x (List.mem_of_mem_take hx)
theorem Byt.drop {a : List Nat} (h : Byt a) (k : Nat) : Byt (a.drop k) := fun x hx => h x (List.mem_of_mem_drop hx)
theorem Byt.at_ {a : List Nat} (h : Byt a) {k x : Nat} (hx : a[k]? = some x) : x < 256 := h x (List.mem_of_getElem? hx)
theorem enc_byt (e : Ev) : Byt (enc e) := by
  intro x hx
  simp only [enc, List.mem_cons, List.not_mem_nil, or_false] at hx
  rcases hx with rfl | rfl | rfl | rfl | rfl | rfl | rfl | rfl | rfl | rfl
  all_goals first | omega | (split <;> omega)
theorem encs_byt (l : List Ev) : Byt (encs l) := by
  intro x hx
  simp only [encs, List.mem_flatMap] at hx
  obtain ⟨e, _, h⟩ := hx
  exact enc_byt e x h

/-- The event of ten bytes, if they have its form. -/
def evOf (a b c d e f g h i j : Nat) : Ev := ⟨a, b * 65536 + c * 256 + d, e, f, g * 256 + h, i, if a = 1 then 1 - 2 * (j : Int) else 0⟩
def formB (a j : Nat) : Bool := decide (j = 0 ∨ j = 1 ∧ a = 1)
/-- The events of bytes, ten for each, if they have the form. -/
def raws : List Nat → Option (List Ev)
  | [] => some []
  | a :: b :: c :: d :: e :: f :: g :: h :: i :: j :: r => if formB a j then (match raws r with | some l => some (evOf a b c d e f g h i j :: l) | none => none) else none
  | _ => none
/-- What Decode returns. -/
def decE (b : List Nat) : Int := if b.length > 655360 then 3 else if b.length % 10 ≠ 0 then 4 else match raws b with | none => 4 | some l => chks l
def decL (b : List Nat) : List Ev := if decE b = 0 then (match raws b with | none => [] | some l => l) else []

theorem evOf_enc {e : Ev} (h : chk e = 0) : ∃ a b c d x f g y i j, enc e = [a, b, c, d, x, f, g, y, i, j] ∧ formB a j = true ∧ evOf a b c d x f g y i j = e := by
  obtain ⟨h1, h2, h3, h4, h5, h6, h7, h8⟩ := chk_bd h
  refine ⟨_, _, _, _, _, _, _, _, _, _, rfl, ?_, ?_⟩
  · unfold formB
    by_cases hs : e.s = -1
    · rw [if_pos hs]
      have : e.k = 1 := by
        rcases Decidable.em (e.k = 1) with hk | hk
        · exact hk
        · have := h8 hk; omega
      rw [this]; decide
    · rw [if_neg hs]; exact decide_eq_true (.inl rfl)
  · unfold evOf
    obtain ⟨k, t, u, v, w, l, s⟩ := e
    simp only at h1 h2 h3 h4 h5 h6 h7 h8 ⊢
    have hk : ((k % 256).toNat : Int) = k := by omega
    have hs : (if (k % 256).toNat = 1 then 1 - 2 * (((if s = -1 then 1 else 0 : Nat)) : Int) else 0) = s := by
      by_cases h : k = 1
      · rw [if_pos (by omega)]
        rcases h7 h with rfl | rfl <;> decide
      · rw [if_neg (by omega)]
        have := h8 h; omega
    rw [hs]
    congr 1 <;> omega
theorem raws_cons {e : Ev} (h : chk e = 0) (r : List Nat) : raws (enc e ++ r) = match raws r with | some l => some (e :: l) | none => none := by
  obtain ⟨a, b, c, d, x, f, g, y, i, j, h1, h2, h3⟩ := evOf_enc h
  rw [h1]
  show raws (a :: b :: c :: d :: x :: f :: g :: y :: i :: j :: r) = _
  rw [raws, if_pos h2, h3]
theorem raws_encs {l : List Ev} (h : first l = 0) : raws (encs l) = some l := by
  induction l with
  | nil => rfl
  | cons e r ih =>
    have he := first_all h e (by simp)
    have hr : first r = 0 := first_zero fun x hx => first_all h x (by simp [hx])
    rw [encs_cons, raws_cons he, ih hr]
theorem dec_encs {l : List Ev} (h : chks l = 0) : decE (encs l) = 0 ∧ decL (encs l) = l := by
  unfold chks at h
  split at h
  · omega
  rename_i hl
  have hd : decE (encs l) = 0 := by
    unfold decE
    rw [encs_len, if_neg (by omega), if_neg (by omega), raws_encs h]
    show chks l = 0
    unfold chks; rw [if_neg hl]; exact h
  refine ⟨hd, ?_⟩
  unfold decL
  rw [if_pos hd, raws_encs h]

/-- One step of the sum. -/
def stp (s x : Nat) : Nat := (s ^^^ x) * 16777619 % 4294967296
/-- The sum of bytes. -/
def sum (l : List Nat) : Nat := l.foldl stp 2166136261
theorem sum_append (a b : List Nat) : sum (a ++ b) = b.foldl stp (sum a) := List.foldl_append
theorem stp_lt (s x : Nat) : stp s x < 4294967296 := Nat.mod_lt _ (by omega)
theorem fold_lt {s : Nat} (hs : s < 4294967296) (l : List Nat) : l.foldl stp s < 4294967296 := by
  induction l generalizing s with
  | nil => exact hs
  | cons x r ih => exact ih (stp_lt _ _)
theorem sum_lt (l : List Nat) : sum l < 4294967296 := fold_lt (by omega) l
theorem xor_lt32 {a b : Nat} (ha : a < 4294967296) (hb : b < 256) : a ^^^ b < 4294967296 := Nat.xor_lt_two_pow (n := 32) ha (by omega)
theorem mul_inv {s : Nat} (hs : s < 4294967296) : s * 16777619 % 4294967296 * 899433627 % 4294967296 = s := by
  rw [Nat.mul_mod, Nat.mod_mod, ← Nat.mul_mod, Nat.mul_assoc, Nat.mul_mod]
  show s % 4294967296 * 1 % 4294967296 = s
  omega
theorem mul_inj {s t : Nat} (hs : s < 4294967296) (ht : t < 4294967296) (h : s * 16777619 % 4294967296 = t * 16777619 % 4294967296) : s = t := by
  have h1 := mul_inv hs
  have h2 := mul_inv ht
  rw [h] at h1
  exact h1.symm.trans h2
theorem xor_inj {s t x : Nat} (h : s ^^^ x = t ^^^ x) : s = t := by
  have := congrArg (· ^^^ x) h
  simpa [Nat.xor_assoc] using this
theorem xor_inj' {s x y : Nat} (h : s ^^^ x = s ^^^ y) : x = y := by
  rw [Nat.xor_comm s x, Nat.xor_comm s y] at h; exact xor_inj h
theorem stp_inj {s t x : Nat} (hs : s < 4294967296) (ht : t < 4294967296) (hx : x < 256) (h : stp s x = stp t x) : s = t :=
  xor_inj (mul_inj (xor_lt32 hs hx) (xor_lt32 ht hx) h)
theorem stp_ne {s x y : Nat} (hs : s < 4294967296) (hx : x < 256) (hy : y < 256) (h : stp s x = stp s y) : x = y :=
  xor_inj' (mul_inj (xor_lt32 hs hx) (xor_lt32 hs hy) h)
theorem fold_inj {s t : Nat} {l : List Nat} (hl : Byt l) (hs : s < 4294967296) (ht : t < 4294967296) (h : l.foldl stp s = l.foldl stp t) : s = t := by
  induction l generalizing s t with
  | nil => exact h
  | cons x r ih => exact stp_inj hs ht (hl x (by simp)) (ih (fun y hy => hl y (by simp [hy])) (stp_lt _ _) (stp_lt _ _) h)
/-- Bytes of which exactly one is another one have another sum. -/
theorem sum_ne {a : List Nat} {i x y : Nat} (ha : Byt a) (h : a[i]? = some x) (hy : y < 256) (hne : x ≠ y) : sum (a.set i y) ≠ sum a := by
  obtain ⟨hi, hx⟩ := List.getElem?_eq_some_iff.1 h
  have e1 : a = a.take i ++ x :: a.drop (i + 1) := by rw [← hx]; simp
  have e2 : a.set i y = a.take i ++ y :: a.drop (i + 1) := List.set_eq_take_append_cons_drop ▸ by rw [if_pos hi]
  intro hs
  rw [e2] at hs
  rw [e1] at hs
  have hlen : (a.take i ++ x :: a.drop (i + 1)).take i = a.take i := by rw [← e1]
  have hdr : (a.take i ++ x :: a.drop (i + 1)).drop (i + 1) = a.drop (i + 1) := by rw [← e1]
  rw [hlen, hdr, sum_append, sum_append] at hs
  simp only [List.foldl_cons] at hs
  have := fold_inj (ha.drop (i + 1)) (stp_lt _ _) (stp_lt _ _) hs
  exact hne (stp_ne (sum_lt _) hy (ha.at_ h) this).symm
end CoEv
