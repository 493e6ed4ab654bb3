/- Printed from PeeC, Cln, PeeD, PeeE, CorF, CorH, PeeI, PeeN, LwtA. -/
import Derived.Test.YticekkjambkifaaGreatDoorZad
import Derived.Test.YticekkjambkifaaGreatDoorZai
import Derived.Test.YticekkjambkifaaGreatDoorZrt
import Derived.Test.YticekkjambkifaaGreatDoorZac
import Derived.Laws.EntriesVeiled
import Derived.Test.YticekkjambkifaaGreatDoorZak
import Derived.Lib.QuietBelow
/- Package peel: offer, walked. -/
set_option linter.unusedVariables false
namespace Go.Proofs.YticekkjambkifaaGreatDoor
open Go.RowKit CoBit CoRat Rt

theorem grown_of_below {w w' : World} (h : Below w.heap.size w w') (row : Option Nat) : w.grownBy w' row := ⟨h.os, h.tape, h.output, h.size, fun k hk _ => h.block k hk⟩
/-- The density of a set, in lowest terms. -/
def dnN (es : List (Int × Int)) (x : Nat) : Int := mkN (insE es (bset x) : Nat) (pop x : Nat)
def dnD (es : List (Int × Int)) (x : Nat) : Int := mkD (insE es (bset x) : Nat) (pop x : Nat)

end Go.Proofs.YticekkjambkifaaGreatDoor

namespace Go.Proofs.YticekkjambkifaaGreatDoor
open Go.RowKit CoBit CoRat Rt
attribute [local irreducible] dnN dnD

/-- What a record holds after an offer. -/
@[irreducible] def offV (es : List (Int × Int)) (x : Nat) (r : Nat × Int × Int) : Nat × Int × Int :=
  if r.2.2 = 0 then (x, dnN es x, dnD es x) else if 0 < cmpF (dnN es x) (dnD es x) r.2.1 r.2.2 then (x, dnN es x, dnD es x) else r

end Go.Proofs.YticekkjambkifaaGreatDoor

/- slices.Clone of a list of numbers. -/
set_option linter.unusedVariables false
set_option linter.unusedSimpArgs false
namespace Go.Proofs.YticekkjambkifaaGreatDoor
open Go.RowKit CoBit

end Go.Proofs.YticekkjambkifaaGreatDoor

/- Package peel: peeling and rest. -/
set_option linter.unusedVariables false
set_option linter.unusedSimpArgs false
namespace Go.Proofs.YticekkjambkifaaGreatDoor
open Go.RowKit CoBit CoRat Rt

/-- What is left of n nodes before step k of an order. -/
def lfK (n : Nat) (o : List Int) (k : Nat) : Nat := (o.take k).foldl (fun x v => clr x v.toNat) (2 ^ n - 1)
theorem lfK_zero (n : Nat) (o : List Int) : lfK n o 0 = 2 ^ n - 1 := rfl
theorem lfK_succ {n : Nat} {o : List Int} {k : Nat} {v : Int} (h : o[k]? = some v) : lfK n o (k + 1) = clr (lfK n o k) v.toNat := by
  obtain ⟨hk, rfl⟩ := List.getElem?_eq_some_iff.1 h
  unfold lfK
  rw [List.take_succ_eq_append_getElem hk, List.foldl_append]; rfl
theorem two_lt {n : Nat} (hn : n ≤ 64) : 2 ^ n - 1 < 18446744073709551616 := by
  have h1 : (2 : Nat) ^ n ≤ 2 ^ 64 := Nat.pow_le_pow_right (by omega) hn
  rw [show (2 : Nat) ^ 64 = 18446744073709551616 by decide +kernel] at h1
  have := Nat.two_pow_pos n
  omega
theorem lfK_lt {n : Nat} (hn : n ≤ 64) (o : List Int) (k : Nat) : lfK n o k < 18446744073709551616 := by
  unfold lfK
  have : ∀ (l : List Int) (x : Nat), x < 18446744073709551616 → l.foldl (fun x v => clr x v.toNat) x < 18446744073709551616 := by
    intro l
    induction l with
    | nil => intro x h; exact h
    | cons v l ih => intro x h; exact ih _ (clr_lt h)
  exact this _ _ (two_lt hn)
theorem lfK_bit {n : Nat} (hn : n ≤ 64) {o : List Int} (ho : ∀ x ∈ o, 0 ≤ x ∧ x < n) (k i : Nat) : (lfK n o k).testBit i = true ↔ i < n ∧ (i : Int) ∉ o.take k := by
  unfold lfK
  have : ∀ (l : List Int) (x : Nat), x < 18446744073709551616 → (∀ y ∈ l, 0 ≤ y ∧ y < n) → ((l.foldl (fun x v => clr x v.toNat) x).testBit i = true ↔ x.testBit i = true ∧ (i : Int) ∉ l) := by
    intro l
    induction l with
    | nil => intro x _ _; simp
    | cons v l ih =>
      intro x h hl
      have hv := hl v (by simp)
      rw [List.foldl_cons, ih _ (clr_lt h) (fun y hy => hl y (by simp [hy])), clr_bit h (by omega), Bool.and_eq_true, decide_eq_true_iff, List.mem_cons, not_or]
      constructor
      · rintro ⟨⟨h1, h2⟩, h3⟩
        exact ⟨h1, fun e => h2 (by omega), h3⟩
      · rintro ⟨h1, h2, h3⟩
        exact ⟨⟨h1, fun e => h2 (by omega)⟩, h3⟩
  rw [this _ _ (two_lt hn) (fun y hy => ho y (List.mem_of_mem_take hy)), all_bit, decide_eq_true_iff]
/-- The record before step k. -/
def recK (n : Nat) (es : List (Int × Int)) (o : List Int) : Nat → Nat × Int × Int
  | 0 => (0, 0, 0)
  | k + 1 => offV es (lfK n o k) (recK n es o k)
/-- A density for peeling: nothing has 0. -/
def fixD (D : Int) : Int := if D = 0 then 1 else D
/-- A peeling is returned. -/
def PeeV (w' : World) (b : Nat) (o : List Int) (s : List Int) (N D : Int) (v : Value) : Prop := ∃ A1 n1 c1 A2 n2 c2, v = .agg #[.slice A1 n1 c1, .slice A2 n2 c2, .int .i64 N, .int .i64 D] ∧ n1 ≤ c1 ∧ n2 ≤ c2 ∧ RI w' A1 n1 o ∧ RI w' A2 n2 s ∧ Fr b A2

theorem grown_fresh {w w' : World} {row : Option Nat} (h : w.grownBy w' row) {p : Addr} (hp : w.heap.size ≤ p.block) (u : Value) : w.grownBy (w'.setCell p u) row :=
  ⟨h.os, h.tape, h.output, by rw [World.size_setCell]; exact h.size, fun k hk hne => (Below.heap_setCell w' p u k (by omega)).trans (h.block k hk hne)⟩
theorem Tab.drw' {w : World} (h : Tab w) : Tab w.drew := h
end Go.Proofs.YticekkjambkifaaGreatDoor

/- Plain: the best rest along an order. -/
set_option linter.unusedVariables false
set_option linter.unusedSimpArgs false
namespace Go.Proofs.YticekkjambkifaaGreatDoor
open Go.RowKit CoBit CoRat Rt

theorem cross_le {a b c d e f : Nat} (hd : 0 < d) (h1 : a * d ≤ c * b) (h2 : c * f ≤ e * d) : a * f ≤ e * b := by
  refine Nat.le_of_mul_le_mul_left ?_ hd
  have e1 : d * (a * f) = (a * d) * f := by grind
  have e2 : d * (e * b) = (e * d) * b := by grind
  rw [e1, e2]
  refine Nat.le_trans (Nat.mul_le_mul_right f h1) (Nat.le_trans ?_ (Nat.mul_le_mul_right b h2))
  have : c * b * f = c * f * b := by grind
  omega
theorem cross_lt {a b c d e f : Nat} (hb : 0 < b) (h1 : a * d ≤ c * b) (h2 : c * f < e * d) : a * f < e * b := by
  refine Nat.lt_of_mul_lt_mul_left (a := d) ?_
  have e1 : d * (a * f) = (a * d) * f := by grind
  have e2 : d * (e * b) = (e * d) * b := by grind
  rw [e1, e2]
  refine Nat.lt_of_le_of_lt (Nat.mul_le_mul_right f h1) ?_
  have e3 : c * b * f = c * f * b := by grind
  rw [e3]
  exact Nat.mul_lt_mul_of_pos_right h2 hb
section
variable {n : Nat} {es : List (Int × Int)} {o : List Int}
/-- Edges and nodes of the rest before step k. -/
def iK (n : Nat) (es : List (Int × Int)) (o : List Int) (k : Nat) : Nat := insE es (bset (lfK n o k))
def sK (n : Nat) (o : List Int) (k : Nat) : Nat := pop (lfK n o k)
theorem bset_rest (hn : n ≤ 64) (ho : Per o n) (k : Nat) : bset (lfK n o k) = ofL (o.drop k) := by
  refine sorted_ext (bset_sorted _) (of_sorted _) fun x => ?_
  rw [mem_of]
  have hnd : (o.take k ++ o.drop k).Nodup := by rw [List.take_append_drop]; exact ho.2.1
  have hdis := (List.nodup_append.1 hnd).2.2
  constructor
  · intro h
    obtain ⟨i, hi, rfl⟩ := mem_nts.1 h
    have h1 := (lfK_bit hn ho.2.2 k i).1 (mem_bl.1 hi).2
    have h2 := per_all ho h1.1
    rw [← List.take_append_drop k o, List.mem_append] at h2
    rcases h2 with h2 | h2
    · exact absurd h2 h1.2
    · exact h2
  · intro h
    have hx := ho.2.2 x (List.mem_of_mem_drop h)
    obtain ⟨i, rfl⟩ := Int.eq_ofNat_of_zero_le hx.1
    refine mem_bset.2 ⟨by omega, (lfK_bit hn ho.2.2 k i).2 ⟨by omega, fun h' => ?_⟩⟩
    exact hdis _ h' _ h rfl
theorem sK_eq (hn : n ≤ 64) (ho : Per o n) (k : Nat) : sK n o k = n - k := by
  have h1 : (bset (lfK n o k)).length = (o.drop k).length := by
    rw [bset_rest hn ho]
    have hnd : (o.drop k).Nodup := (List.drop_sublist k o).nodup ho.2.1
    exact ((List.perm_ext_iff_of_nodup (sorted_nodup (of_sorted _)) hnd).2 fun x => by rw [mem_of]).length_eq
  unfold sK
  rw [pop_bl, ← nts_length]
  unfold bset at h1
  rw [h1, List.length_drop, ho.1]
/-- The record before step k is the first best rest so far. -/
theorem rec_best (hn : n ≤ 64) (ho : Per o n) (hes : es.length ≤ 68719476736) (k : Nat) (hk : k < n) : ∃ b, b ≤ k ∧ recK n es o (k + 1) = (lfK n o b, dnN es (lfK n o b), dnD es (lfK n o b)) ∧
    (∀ j, j ≤ k → iK n es o j * sK n o b ≤ iK n es o b * sK n o j) ∧ ∀ j, j < b → iK n es o j * sK n o b < iK n es o b * sK n o j := by
  have hI : ∀ j, iK n es o j ≤ 1152921504606846976 := fun j => Nat.le_trans (insE_le _ _) (by omega)
  have hS : ∀ j, sK n o j ≤ 1152921504606846976 := fun j => by rw [sK_eq hn ho]; omega
  have hs0 : ∀ j, j < n → 0 < sK n o j := fun j hj => by rw [sK_eq hn ho]; omega
  induction k with
  | zero =>
    refine ⟨0, Nat.le_refl _, ?_, fun j hj => ?_, fun j hj => by omega⟩
    · show offV es (lfK n o 0) (0, 0, 0) = _
      unfold offV
      exact if_pos rfl
    · obtain rfl : j = 0 := by omega
      exact Nat.le_refl _
  | succ k ih =>
    obtain ⟨b, hb, hr, h1, h2⟩ := ih (by omega)
    have hst : recK n es o (k + 1 + 1) = offV es (lfK n o (k + 1)) (recK n es o (k + 1)) := rfl
    have hok := mk_ok (iK n es o b) (sK n o b) (hs0 b (by omega)) (hI b) (hS b)
    have hd : dnD es (lfK n o b) ≠ 0 := by
      have := okF_bd hok
      intro h
      have h3 : dnD es (lfK n o b) = mkD (iK n es o b : Nat) (sK n o b : Nat) := rfl
      rw [h3] at h
      omega
    have hc : cmpF (dnN es (lfK n o (k + 1))) (dnD es (lfK n o (k + 1))) (dnN es (lfK n o b)) (dnD es (lfK n o b)) = ((iK n es o (k + 1) : Int) * (sK n o b : Nat) - (iK n es o b : Int) * (sK n o (k + 1) : Nat)).sign :=
      cmp_mk _ _ _ _ (hs0 _ hk) (hs0 b (by omega)) (hI _) (hS _) (hI _) (hS _)
    have hof : offV es (lfK n o (k + 1)) (lfK n o b, dnN es (lfK n o b), dnD es (lfK n o b)) = if iK n es o b * sK n o (k + 1) < iK n es o (k + 1) * sK n o b then (lfK n o (k + 1), dnN es (lfK n o (k + 1)), dnD es (lfK n o (k + 1))) else (lfK n o b, dnN es (lfK n o b), dnD es (lfK n o b)) := by
      unfold offV
      simp only
      rw [if_neg hd, hc]
      obtain ⟨c1, c2, c3⟩ := cmp_pos (iK n es o (k + 1)) (iK n es o b) (sK n o b) (sK n o (k + 1))
      rcases Nat.lt_trichotomy (iK n es o (k + 1) * sK n o b) (iK n es o b * sK n o (k + 1)) with h | h | h
      · rw [c2 h, if_neg (by omega), if_neg (by omega)]
      · rw [c1 h, if_neg (by omega), if_neg (by omega)]
      · rw [c3 h, if_pos (by omega), if_pos (by omega)]
    rw [hst, hr, hof]
    by_cases hlt : iK n es o b * sK n o (k + 1) < iK n es o (k + 1) * sK n o b
    · rw [if_pos hlt]
      refine ⟨k + 1, Nat.le_refl _, rfl, fun j hj => ?_, fun j hj => ?_⟩
      · rcases Nat.lt_or_ge j (k + 1) with h | h
        · exact Nat.le_of_lt (cross_lt (hs0 j (by omega)) (h1 j (by omega)) hlt)
        · obtain rfl : j = k + 1 := by omega
          exact Nat.le_refl _
      · exact cross_lt (hs0 j (by omega)) (h1 j (by omega)) hlt
    · rw [if_neg hlt]
      refine ⟨b, by omega, rfl, fun j hj => ?_, h2⟩
      rcases Nat.lt_or_ge j (k + 1) with h | h
      · exact h1 j (by omega)
      · obtain rfl : j = k + 1 := by omega
        omega
end
end Go.Proofs.YticekkjambkifaaGreatDoor

/- Package core, fourth part: Check. -/
set_option linter.unusedVariables false
namespace Go.Proofs.YticekkjambkifaaGreatDoor
open Go.RowKit CoBit

theorem Tab.below2 {w w' : World} {b : Nat} (h : Tab w) (hb : Below b w w') (hB : w.heap.size ≤ b) : Tab w' := h.keep (hb.mono hB)
end Go.Proofs.YticekkjambkifaaGreatDoor

namespace Go.Proofs.YticekkjambkifaaGreatDoor
open Go.RowKit CoBit

end Go.Proofs.YticekkjambkifaaGreatDoor

namespace Go.Proofs.YticekkjambkifaaGreatDoor
open Go.RowKit CoBit

section
variable {w w' : World} {g : Nat} {us : List Nat}
end
theorem OI.set {w : World} {B : Nat} {v : Value} {ys : List Int} (h : OI w B v ys) {g : Nat} (i : Nat) (hg : g < B) (u : Value) : OI (w.setCell ⟨g, i, none⟩ u) B v ys :=
  OI.kept (row := some g) h (grown_setB (World.grownBy.refl _ _) i u) (.inr fun e => by have := (h.block_lt _ e).1; omega)

section
variable {w0 w w' : World} {gr gb gd gn B : Nat} {rows bu : List Nat} {de nu : List Int} {v : Value} {o : List Int}
end

section
variable {w0 w w' : World} {gr gb gd : Nat} {rows bu : List Nat} {de : List Int}
end
theorem u64_orN {x b : Nat} (hx : x < 18446744073709551616) (hb : b < 64) : bits .or .u64 (x : Int) ((bitN b : Nat) : Int) = ((x ||| 2 ^ b : Nat) : Int) := bits_or_u64_nat x (2 ^ b) hx (two_pow_lt hb)
theorem fill_bk {n k : Nat} {bu : List Nat} {de : List Int} {d : Nat} (h : Bk n bu de (fun i => i < k)) (hk : k < n) (hn : n ≤ 64) (hd : d < 64) : Bk n (bu.set d (bu.getD d 0 ||| 2 ^ k)) (de.set k (d : Int)) (fun i => i < k + 1) :=
  (h.put hk hn (by omega) hd).congr fun i => by omega
theorem fill_de {n k : Nat} {bu : List Nat} {de : List Int} {rows : List Nat} {d : Nat} {P : Nat → Prop} (h : Bk n bu de P) (hk : k < n) (hd : pop (rows.getD k 0) = d) (hde : ∀ i, i < k → de.getD i 0 = (pop (rows.getD i 0) : Int)) : ∀ i, i < k + 1 → (de.set k (d : Int)).getD i 0 = (pop (rows.getD i 0) : Int) := by
  intro i hi
  rw [getD_set (by rw [h.dl]; exact hk)]
  by_cases e : i = k
  · subst e; rw [if_pos rfl, hd]
  · rw [if_neg e]; exact hde i (by omega)
theorem RI.set {w : World} {B : Nat} {A : Option Addr} {n : Nat} {xs : List Int} (h : RI w A n xs) (hf : Fr B A) {g : Nat} (i : Nat) (hg : g < B) (u : Value) : RI (w.setCell ⟨g, i, none⟩ u) A n xs :=
  RI.kept (row := some g) h (grown_setB (World.grownBy.refl _ _) i u) fun ad e he => by have := hf ad e; injection he with he; omega
theorem rst_all {n : Nat} (i : Nat) : (i : Int) ∈ rst n [] ↔ i < n := by
  rw [rst_nil, mem_rng]
  omega
theorem left_all {n : Nat} (i : Nat) : (2 ^ n - 1).testBit i = true ↔ (i : Int) ∈ rst n [] := by rw [all_bit, rst_all, decide_eq_true_eq]
theorem rst_len (n : Nat) (o : List Int) : (rst n o).length ≤ n := by
  unfold rst
  exact Nat.le_trans (List.length_filter_le _ _) (by rw [rng_length]; exact Nat.le_refl _)
theorem push_iff {n v : Nat} {o : List Int} (i : Nat) : ((i : Int) ∈ rst n o ∧ i ≠ v) ↔ (i : Int) ∈ rst n (o ++ [(v : Int)]) := by
  rw [mem_rst_push]
  exact and_congr_right fun _ => by omega
theorem ps_len {nb : Int → List Int} {n : Nat} {o : List Int} (h : PS nb n o) : o.length ≤ n := by
  have hr := ps_range h
  exact nodup_length hr.1 hr.2
theorem nts_at {us : List Nat} {j : Nat} {y : Int} (h : (nts us)[j]? = some y) : ∃ u : Nat, y = (u : Int) ∧ us[j]? = some u := by
  unfold nts at h
  rw [List.getElem?_map] at h
  cases hu : us[j]? with
  | none => rw [hu] at h; cases h
  | some u => rw [hu] at h; exact ⟨u, by injection h with h; exact h.symm, rfl⟩
theorem Bk.down' {n : Nat} {bu : List Nat} {de : List Int} {P : Nat → Prop} (h : Bk n bu de P) {v d D : Nat} (hp : P v) (hn : n ≤ 64) (hD : D = d + 1) (hd : D < 64) (hdv : de.getD v 0 = (D : Int)) :
    Bk n ((bu.set D (clr (bu.getD D 0) v)).set d ((bu.set D (clr (bu.getD D 0) v)).getD d 0 ||| 2 ^ v)) (de.set v (d : Int)) P := by
  subst hD
  exact h.down hp hn hd hdv
theorem di_step' {nb : Int → List Int} {L : List Int} {us : List Nat} {j u d D : Nat} {de : List Int} (h : DI nb L us j de) (hu : us[j]? = some u) (hnd : us.Nodup) (hul : u < de.length) (hD : D = d + 1) (hd : de.getD u 0 = (D : Int)) : DI nb L us (j + 1) (de.set u (d : Int)) := by
  subst hD
  exact di_step h hu hnd hul hd
end Go.Proofs.YticekkjambkifaaGreatDoor

/- Package core, seventh part: the peeling. -/
set_option linter.unusedVariables false
namespace Go.Proofs.YticekkjambkifaaGreatDoor
open Go.RowKit CoBit

end Go.Proofs.YticekkjambkifaaGreatDoor

namespace Go.Proofs.YticekkjambkifaaGreatDoor
open Go.RowKit CoBit

end Go.Proofs.YticekkjambkifaaGreatDoor

/- Package peel: Limit, asked. -/
set_option linter.unusedVariables false
set_option linter.unusedSimpArgs false
namespace Go.Proofs.YticekkjambkifaaGreatDoor
open Go.RowKit CoBit

/-- A block of a list is the call's own. -/
theorem AI.oi {w : World} {g B : Nat} {xs : List Int} (h : AI w g xs) (hB : B ≤ g) (hn : xs.length ≤ 1099511627776) : OI w B (.slice (some ⟨g, 0, none⟩) xs.length xs.length) xs := by
  refine ⟨by rw [ints_length]; omega, .inr ⟨g, xs.length, (ints xs).toArray, rfl, hB, h, Nat.le_refl _, by unfold maxLen; omega, by simp [ints_length], by rw [← ints_length]; simp⟩⟩
theorem isMx_maxL {ls : List Int} (h : ∀ x ∈ ls, 0 ≤ x) {m : Int} (hm : IsMx (ls ++ [0]) m) : m = maxL ls := by
  have h1 : 0 ≤ m := hm.2 0 (by simp)
  have h2 : ∀ x ∈ ls, x ≤ m := fun x hx => hm.2 x (by simp [hx])
  have h3 := maxL_le h1 h2
  have h4 := hm.1
  rw [List.mem_append] at h4
  rcases h4 with h4 | h4
  · have := maxL_ge h4; omega
  · rw [List.mem_singleton] at h4
    have := maxL_nonneg ls; omega
theorem later_nonneg {nb : Int → List Int} {n : Nat} {o ls : List Int} (ho : Per o n) (h : IsLater nb n o ls) : ∀ x ∈ ls, 0 ≤ x := by
  intro x hx
  obtain ⟨i, hi⟩ := List.mem_iff_getElem?.1 hx
  obtain ⟨hl, rfl⟩ := List.getElem?_eq_some_iff.1 hi
  rw [h.1] at hl
  have hm := per_all ho hl
  obtain ⟨j, hj⟩ := List.mem_iff_getElem?.1 hm
  have := h.2 j _ hj
  rw [Int.toNat_natCast, List.getD_eq_getElem?_getD, hi] at this
  simp at this
  rw [this]; omega
end Go.Proofs.YticekkjambkifaaGreatDoor

namespace Go.Proofs.YticekkjambkifaaGreatDoor
open Go.RowKit CoBit CoRat Rt

/-- A peeling is returned. -/
def RetPee (w : World) (o S : List Int) (N D : Int) (e : Ending) (w' : World) : Prop := ∃ A1 n1 c1 A2 n2 c2, e = .returned (.agg #[.slice A1 n1 c1, .slice A2 n2 c2, .int .i64 N, .int .i64 D]) ∧ n1 ≤ c1 ∧ n2 ≤ c2 ∧ RI w' A1 n1 o ∧ RI w' A2 n2 S ∧ Below w.heap.size w w' ∧ Fr w.heap.size A1 ∧ Fr w.heap.size A2
/-- A peeling and an error are returned. -/
def RetPeE (w : World) (o S : List Int) (N D err : Int) (e : Ending) (w' : World) : Prop := ∃ A1 n1 c1 A2 n2 c2, e = .returned (.tuple #[.agg #[.slice A1 n1 c1, .slice A2 n2 c2, .int .i64 N, .int .i64 D], .int .i64 err]) ∧ n1 ≤ c1 ∧ n2 ≤ c2 ∧ RI w' A1 n1 o ∧ RI w' A2 n2 S ∧ Below w.heap.size w w' ∧ Fr w.heap.size A1 ∧ Fr w.heap.size A2
theorem recK_lt {n : Nat} (hn : n ≤ 64) (es : List (Int × Int)) (o : List Int) (k : Nat) : (recK n es o k).1 < 18446744073709551616 := by
  induction k with
  | zero => show (0 : Nat) < _; omega
  | succ k ih =>
    show (offV es (lfK n o k) (recK n es o k)).1 < _
    unfold offV
    split
    · exact lfK_lt hn o k
    · split
      · exact lfK_lt hn o k
      · exact ih

end Go.Proofs.YticekkjambkifaaGreatDoor

namespace Go.Proofs.YticekkjambkifaaGreatDoor
open Go.RowKit CoBit CoRat Rt

theorem isOrd_per {n : Nat} {es : List (Int × Int)} {o : List Int} (hz : chkG n es = 0) (h : IsOrd n es o) : Per o n := by
  have h1 := h.1 hz
  rw [Int.toNat_natCast] at h1
  exact ⟨h1.2, (ps_range h1.1).1, (ps_range h1.1).2⟩
end Go.Proofs.YticekkjambkifaaGreatDoor

/- Package peel: few, walked. -/
set_option linter.unusedVariables false
set_option linter.unusedSimpArgs false
namespace Go.Proofs.YticekkjambkifaaGreatDoor
open Go.RowKit CoBit CoRat Rt

/-- Has a node few neighbours in a set? -/
def fewP (n : Nat) (es : List (Int × Int)) (x a d : Nat) (v : Nat) : Bool := decide (pop ((rowsL n es).getD v 0 &&& x) * pop x * d ≤ 2 * (d + a) * insE es (bset x))
def fewS (p : Nat → Bool) (y v : Nat) : Nat := if p v then y ||| bitN v else y
/-- The set of the nodes with few neighbours. -/
def fewM (n : Nat) (es : List (Int × Int)) (x a d : Nat) : Nat := (bl x).foldl (fewS (fewP n es x a d)) 0
theorem fewS_lt {p : Nat → Bool} {y v : Nat} (hy : y < 18446744073709551616) (hv : v < 64) : fewS p y v < 18446744073709551616 := by
  unfold fewS
  split
  · have h2 := two_pow_lt hv
    have := Nat.or_lt_two_pow (x := y) (y := bitN v) (n := 64) (by rw [show (2 : Nat) ^ 64 = 18446744073709551616 by decide +kernel]; exact hy) (by rw [show (2 : Nat) ^ 64 = 18446744073709551616 by decide +kernel]; exact h2)
    rw [show (2 : Nat) ^ 64 = 18446744073709551616 by decide +kernel] at this
    exact this
  · exact hy
theorem fewF_lt {p : Nat → Bool} : ∀ (l : List Nat) (y : Nat), y < 18446744073709551616 → (∀ v ∈ l, v < 64) → l.foldl (fewS p) y < 18446744073709551616
  | [], y, h, _ => h
  | v :: l, y, h, hl => fewF_lt l _ (fewS_lt h (hl v (by simp))) fun u hu => hl u (by simp [hu])
theorem fewF_bit {p : Nat → Bool} (i : Nat) : ∀ (l : List Nat) (y : Nat), (l.foldl (fewS p) y).testBit i = true ↔ y.testBit i = true ∨ (i ∈ l ∧ p i = true)
  | [], y => by simp
  | v :: l, y => by
    rw [List.foldl_cons, fewF_bit i l, List.mem_cons]
    unfold fewS
    by_cases hp : p v = true
    · rw [if_pos hp, Nat.testBit_or, Bool.or_eq_true]
      have hb : (bitN v).testBit i = true ↔ i = v := by
        unfold bitN
        rw [Nat.testBit_two_pow]
        simp [eq_comm]
      rw [hb]
      constructor
      · rintro ((h | h) | h)
        · exact .inl h
        · subst h; exact .inr ⟨.inl rfl, hp⟩
        · exact .inr ⟨.inr h.1, h.2⟩
      · rintro (h | ⟨h | h, h2⟩)
        · exact .inl (.inl h)
        · exact .inl (.inr h)
        · exact .inr ⟨h, h2⟩
    · rw [if_neg hp]
      constructor
      · rintro (h | h)
        · exact .inl h
        · exact .inr ⟨.inr h.1, h.2⟩
      · rintro (h | ⟨h | h, h2⟩)
        · exact .inl h
        · subst h; exact absurd h2 hp
        · exact .inr ⟨h, h2⟩
theorem fewM_lt (n : Nat) (es : List (Int × Int)) (x a d : Nat) : fewM n es x a d < 18446744073709551616 := fewF_lt _ _ (by omega) fun v hv => (mem_bl.1 hv).1
theorem fewM_bit (n : Nat) (es : List (Int × Int)) (x a d i : Nat) : (fewM n es x a d).testBit i = true ↔ (i < 64 ∧ x.testBit i = true) ∧ fewP n es x a d i = true := by
  unfold fewM
  rw [fewF_bit, mem_bl]; simp
theorem few_take {p : Nat → Bool} {l : List Nat} {k v : Nat} (h : l[k]? = some v) : (l.take (k + 1)).foldl (fewS p) 0 = fewS p ((l.take k).foldl (fewS p) 0) v := by
  obtain ⟨hk, rfl⟩ := List.getElem?_eq_some_iff.1 h
  rw [List.take_succ_eq_append_getElem hk, List.foldl_append]; rfl
theorem nts_get {l : List Nat} {k : Nat} {y : Int} (h : (nts l)[k]? = some y) : ∃ u : Nat, y = (u : Int) ∧ l[k]? = some u := by
  unfold nts at h
  rw [List.getElem?_map] at h
  cases hl : l[k]? with
  | none => rw [hl] at h; cases h
  | some u => rw [hl] at h; injection h with h; exact ⟨u, h.symm, rfl⟩

end Go.Proofs.YticekkjambkifaaGreatDoor

namespace Go.Proofs.YticekkjambkifaaGreatDoor
open Go.RowKit

theorem slice_info' : (Tryz.prog.info? 25).map (fun i => (i.zero, i.size, i.bytes)) = some (some (.slice none 0 0), 1, 24) := by kernel_rfl
theorem RI.kept0 {w w' : World} {n : Nat} {A : Option Addr} {xs : List Int} {row : Option Nat} (h : RI w A n xs) (hg : w.grownBy w' row) (hne : ∀ ad, A = some ad → 0 < n → some ad.block ≠ row) : RI w' A n xs :=
  ⟨h.1, fun hn => by
    obtain ⟨ad, e, hb, hc⟩ := (show Reads w w.heap.size 1 A n (ints xs) from h).2 hn
    exact ⟨ad, e, Nat.lt_of_lt_of_le hb hg.size, fun j u hu => (World.cell?_of_block (hg.block (ad.add j).block (by rw [block_of_add]; exact hb) (by rw [block_of_add]; exact hne ad e hn))).trans (hc j u hu)⟩⟩
/-- A row of a list of lists: a slice that reads as ys, in a block from B on, other than two given ones. -/
def RowV (w : World) (B : Nat) (own q : Option Nat) (u : Value) (ys : List Int) : Prop := ∃ A k c, u = .slice A k c ∧ k ≤ c ∧ RI w A k ys ∧ ∀ ad, A = some ad → 0 < k → some ad.block ≠ own ∧ some ad.block ≠ q ∧ B ≤ ad.block ∧ ad.block < w.heap.size
section
variable {w w' : World} {B b : Nat} {own q q' : Option Nat} {u v : Value} {ys : List Int} {L : List (List Int)}
theorem RowV.below (h : RowV w B own q u ys) (hb : Below b w w') (hB : w.heap.size ≤ b) : RowV w' B own q u ys := by
  obtain ⟨A, k, c, h1, h2, h3, h4⟩ := h
  exact ⟨A, k, c, h1, h2, h3.below hb hB, fun ad e hk => ⟨(h4 ad e hk).1, (h4 ad e hk).2.1, (h4 ad e hk).2.2.1, Nat.lt_of_lt_of_le (h4 ad e hk).2.2.2 hb.size⟩⟩
theorem RowV.grown {row : Option Nat} (h : RowV w B own q u ys) (hg : w.grownBy w' row) (hr : ∀ k, row = some k → k < B ∨ some k = own ∨ some k = q) : RowV w' B own q u ys := by
  obtain ⟨A, k, c, h1, h2, h3, h4⟩ := h
  refine ⟨A, k, c, h1, h2, h3.kept0 hg (fun ad e hk he => ?_), fun ad e hk => ⟨(h4 ad e hk).1, (h4 ad e hk).2.1, (h4 ad e hk).2.2.1, Nat.lt_of_lt_of_le (h4 ad e hk).2.2.2 hg.size⟩⟩
  rcases hr _ he.symm with h | h | h
  · have := (h4 ad e hk).2.2.1; omega
  · exact (h4 ad e hk).1 h
  · exact (h4 ad e hk).2.1 h
theorem RowV.turn {own' : Option Nat} (h : RowV w B own q u ys) (ho : own' = own ∨ ∃ k, own' = some k ∧ w.heap.size ≤ k) (hq : q' = q ∨ ∃ k, q' = some k ∧ w.heap.size ≤ k) : RowV w B own' q' u ys := by
  obtain ⟨A, k, c, h1, h2, h3, h4⟩ := h
  refine ⟨A, k, c, h1, h2, h3, fun ad e hk => ⟨?_, ?_, (h4 ad e hk).2.2⟩⟩
  · rcases ho with ho | ⟨j, ho, hj⟩
    · rw [ho]; exact (h4 ad e hk).1
    · rw [ho]; intro he; injection he with he; have := (h4 ad e hk).2.2.2; omega
  · rcases hq with hq | ⟨j, hq, hj⟩
    · rw [hq]; exact (h4 ad e hk).2.1
    · rw [hq]; intro he; injection he with he; have := (h4 ad e hk).2.2.2; omega
/-- The slice v is the call's own and holds the lists L, none of which lies in block q. -/
def OLL (w : World) (B : Nat) (v : Value) (q : Option Nat) (L : List (List Int)) : Prop := ∃ vs : List Value, w.ownsRow B 25 1 v L.length vs ∧ vs.length = L.length ∧ ∀ (i : Nat) (u : Value) (ys : List Int), vs[i]? = some u → L[i]? = some ys → RowV w B v.ownBlock q u ys
theorem OLL.nil_ : OLL w B (.slice none 0 0) q [] := ⟨[], World.ownsRow_nil _ _ _ _, rfl, fun i u ys h => by simp at h⟩
theorem OLL.lt (h : OLL w B v q L) : ∀ k, v.ownBlock = some k → B ≤ k ∧ k < w.heap.size := by obtain ⟨vs, h1, _⟩ := h; exact h1.lt
theorem OLL.below (h : OLL w B v q L) (hb : Below b w w') (hB : w.heap.size ≤ b) : OLL w' B v q L := by
  obtain ⟨vs, h1, h2, h3⟩ := h
  refine ⟨vs, ?_, h2, fun i u ys hu hy => (h3 i u ys hu hy).below hb hB⟩
  exact World.ownsRow.kept h1 (⟨hb.os, hb.tape, hb.output, hb.size, fun k hk _ => hb.block k (by omega)⟩ : w.grownBy w' none) (by cases v.ownBlock <;> simp)
theorem OLL.grown {g : Nat} (h : OLL w B v q L) (hg : w.grownBy w' (some g)) (hgB : g < B) : OLL w' B v q L := by
  obtain ⟨vs, h1, h2, h3⟩ := h
  refine ⟨vs, ?_, h2, fun i u ys hu hy => (h3 i u ys hu hy).grown hg (fun k hk => .inl (by injection hk with hk; omega))⟩
  refine World.ownsRow.kept h1 hg ?_
  cases hv : v.ownBlock with
  | none => exact .inl rfl
  | some k => exact .inr (fun e => by injection e with e; have := (h1.lt k hv).1; omega)
theorem OLL.step (h : OLL w B v q L) (hg : w.grownBy w' q) (hne : v.ownBlock = none ∨ v.ownBlock ≠ q) (hq : q' = q ∨ ∃ k, q' = some k ∧ w.heap.size ≤ k) : OLL w' B v q' L := by
  obtain ⟨vs, h1, h2, h3⟩ := h
  refine ⟨vs, World.ownsRow.kept h1 hg hne, h2, fun i u ys hu hy => ?_⟩
  have h4 := (h3 i u ys hu hy).turn (.inl rfl) hq
  obtain ⟨A, k, c, e1, e2, e3, e4⟩ := h3 i u ys hu hy
  obtain ⟨A', k', c', f1, f2, f3, f4⟩ := h4
  rw [e1] at f1
  injection f1 with f1 f1' f1''
  subst f1; subst f1'; subst f1''
  exact ⟨A, k, c, e1, e2, e3.kept0 hg (fun ad e hk => (e4 ad e hk).2.1), fun ad e hk => ⟨(f4 ad e hk).1, (f4 ad e hk).2.1, (f4 ad e hk).2.2.1, Nat.lt_of_lt_of_le (f4 ad e hk).2.2.2 hg.size⟩⟩
theorem OLL.drewN (h : OLL w B v q L) (n : Nat) : OLL (w.drewN n) B v q L := h
theorem OLL.alloc (h : OLL w B v q L) (o : Obj) : OLL (w.alloc o) B v q L := h.below ((Below.refl _ _).alloc (Nat.le_refl _) o) (Nat.le_refl _)
end
set_option maxRecDepth 100000 in
/-- append of one list. -/
theorem wpList_pushL {ops : Array Oper} {rest : List Oper} {o : Oper} {a : Act} {Q : Exit → Act → World → Prop} {w : World} {T B H : Nat} {v : Value} {q : Option Nat} {L : List (List Int)} {A : Option Addr} {k c : Nat} {ys : List Int}
    (hgd : o.guard = none) (s x : Operand) (ho : o.op = .call { callee := .builtin .append, args := #[s, x], argTypes := #[143, 143] })
    (hs : a.eval s = v) (hx : a.eval x = .slice (some ⟨H, 0, none⟩) 1 1) (hH : H = w.heap.size) (hown : OLL w B v q L) (hn : L.length ≤ 1099511627776) (hB : B ≤ w.heap.size)
    (hk : k ≤ c) (hr : RI w A k ys) (hA : ∀ ad, A = some ad → 0 < k → some ad.block ≠ v.ownBlock ∧ some ad.block ≠ q ∧ B ≤ ad.block ∧ ad.block < w.heap.size)
    (h : ∀ v' w', OLL w' B v' q (L ++ [ys]) → Below B w w' → w.grownBy w' v.ownBlock → (v'.ownBlock = v.ownBlock ∨ ∃ k, v'.ownBlock = some k ∧ w.heap.size ≤ k) → wpList Tryz.prog ops Q rest (a.put o.dst v') w') :
    wpList Tryz.prog ops Q (o :: rest) a (w.alloc (.cells #[.slice A k c] T)) := by
  obtain ⟨i0, hi0, hz0, hz1, hz2⟩ := info_parts slice_info'
  subst hH
  obtain ⟨vs, h1, h2, h3⟩ := hown
  have hrd : Reads (w.alloc (.cells #[.slice A k c] T)) (w.alloc (.cells #[.slice A k c] T)).heap.size 1 (some ⟨w.heap.size, 0, none⟩) 1 [.slice A k c] := by
    refine ⟨rfl, fun _ => ⟨_, rfl, by simp, fun j u hu => ?_⟩⟩
    cases j with
    | zero => injection hu with hu; subst hu; exact Blk.cell (Blk.new w T #[.slice A k c]) 0
    | succ j => simp at hu
  refine wpList_append_any _ hgd s x _ ho B 25 i0 _ 1 24 Tryz.underlying143 hi0 hz0 hz1 hz2 rfl (by omega) v L.length vs hs (World.ownsRow.alloc h1 _) _ _ 1 1 [.slice A k c] hx hrd (by intro u hu; rw [List.mem_singleton] at hu; subst hu; rfl) (by unfold maxLen; omega) (by omega) (by simp; omega) ?_
  intro v' w' h4 h5 h6
  have hbw : Below B w w' := below_own ((Below.refl _ _).alloc hB _) h5 (by simp; omega) (fun k hk => (h1.lt k hk).1)
  have hgw : w.grownBy w' v.ownBlock := ⟨h5.os, h5.tape, h5.output, Nat.le_trans (by simp) h5.size, fun k hk hne => (h5.block k (by simp; omega) hne).trans (Below.heap_alloc w _ k hk)⟩
  have h7 : v'.ownBlock = v.ownBlock ∨ ∃ k, v'.ownBlock = some k ∧ w.heap.size ≤ k := by
    rcases h6 with h6 | h6
    · exact .inl h6
    · exact .inr ⟨_, h6, by simp⟩
  refine h v' w' ⟨vs ++ [.slice A k c], by rw [List.length_append]; exact h4, by simp [h2], ?_⟩ hbw hgw h7
  intro i u zs hu hz
  have hrow : RowV w B v.ownBlock q u zs := by
    rcases Nat.lt_or_ge i L.length with hi | hi
    · rw [List.getElem?_append_left (by omega)] at hu hz
      exact h3 i u zs hu hz
    · rw [List.getElem?_append_right (by omega)] at hu hz
      rw [h2] at hu
      cases hd : i - L.length with
      | zero =>
        rw [hd] at hu hz
        injection hu with hu; injection hz with hz
        subst hu; subst hz
        exact ⟨A, k, c, rfl, hk, hr, hA⟩
      | succ j => rw [hd] at hu; simp at hu
  have h8 := hrow.turn h7 (.inl rfl)
  obtain ⟨A', k', c', e1, e2, e3, e4⟩ := hrow
  obtain ⟨A2, k2, c2, f1, f2, f3, f4⟩ := h8
  rw [e1] at f1
  injection f1 with f1 f1' f1''
  subst f1; subst f1'; subst f1''
  exact ⟨A', k', c', e1, e2, e3.kept0 hgw (fun ad e hk => (e4 ad e hk).1), fun ad e hk => ⟨(f4 ad e hk).1, (f4 ad e hk).2.1, (f4 ad e hk).2.2.1, Nat.lt_of_lt_of_le (f4 ad e hk).2.2.2 hgw.size⟩⟩
/-- append of a list, with its block. -/
theorem wpList_catb {ops : Array Oper} {rest : List Oper} {o : Oper} {a : Act} {Q : Exit → Act → World → Prop} {w : World} {B : Nat} {v : Value} {ys zs : List Int} {A : Option Addr} {m c : Nat}
    (hgd : o.guard = none) (s x : Operand) (ho : o.op = .call { callee := .builtin .append, args := #[s, x], argTypes := #[25, 25] })
    (hs : a.eval s = v) (hx : a.eval x = .slice A m c) (hown : OI w B v ys) (hr : RI w A m zs) (hn : ys.length + m ≤ 2199023255552) (hB : B ≤ w.heap.size)
    (h : ∀ v' w', OI w' B v' (ys ++ zs) → Below B w w' → w.grownBy w' v.ownBlock → (v'.ownBlock = v.ownBlock ∨ ∃ k, v'.ownBlock = some k ∧ w.heap.size ≤ k) → wpList Tryz.prog ops Q rest (a.put o.dst v') w') :
    wpList Tryz.prog ops Q (o :: rest) a w := by
  obtain ⟨i0, hi0, hz0, hz1, hz2⟩ := info_parts int_info
  refine wpList_append_any _ hgd s x _ ho B 3 i0 _ 1 8 Tryz.underlying25 hi0 hz0 hz1 hz2 rfl (by omega) v ys.length (ints ys) hs hown _ _ m c (ints zs) hx hr (ints_one _) (by unfold maxLen; omega) (by omega) hB ?_
  intro v' w' h1 h2 h3
  refine h v' w' ?_ (below_own (Below.refl _ _) h2 hB (own_block hown)) h2 ?_
  · unfold OI
    rw [List.length_append, ints_append, hr.len]; exact h1
  · rcases h3 with h3 | h3
    · exact .inl h3
    · exact .inr ⟨_, h3, Nat.le_refl _⟩
/-- The slice reads as the lists L. -/
def RLL (w : World) (A : Option Addr) (n : Nat) (L : List (List Int)) : Prop := ∃ vs : List Value, Reads w w.heap.size 1 A n vs ∧ L.length = n ∧ ∀ (i : Nat) (u : Value) (ys : List Int), vs[i]? = some u → L[i]? = some ys → ∃ A k c, u = .slice A k c ∧ k ≤ c ∧ RI w A k ys
theorem RLL.below {w w' : World} {b : Nat} {A : Option Addr} {n : Nat} {L : List (List Int)} (h : RLL w A n L) (hb : Below b w w') (hB : w.heap.size ≤ b) : RLL w' A n L := by
  obtain ⟨vs, h1, h2, h3⟩ := h
  refine ⟨vs, (Reads.below h1 hb hB).more hb.size, h2, fun i u ys hu hy => ?_⟩
  obtain ⟨A, k, c, e1, e2, e3⟩ := h3 i u ys hu hy
  exact ⟨A, k, c, e1, e2, e3.below hb hB⟩
theorem RLL.len {w : World} {A : Option Addr} {n : Nat} {L : List (List Int)} (h : RLL w A n L) : L.length = n := by obtain ⟨vs, h1, h2, _⟩ := h; exact h2
theorem RLL.get {w : World} {A : Option Addr} {n : Nat} {L : List (List Int)} (h : RLL w A n L) {i : Nat} (hi : i < n) : ∃ ad A' k c ys, A = some ad ∧ w.cell? (ad.add i) = some (.slice A' k c) ∧ Hid (L[i]? = some ys) ∧ k ≤ c ∧ RI w A' k ys := by
  obtain ⟨vs, h1, h2, h3⟩ := h
  obtain ⟨ad, u, e, hlt, hu, hc⟩ := Reads.at_ h1 hi
  have hy : L[i]? = some (L[i]'(by omega)) := List.getElem?_eq_getElem (by omega)
  obtain ⟨A', k, c, rfl, e2, e3⟩ := h3 i u _ hu hy
  exact ⟨ad, A', k, c, _, e, hc, Lib.hid hy, e2, e3⟩
theorem OLL.read {w : World} {B : Nat} {v : Value} {q : Option Nat} {L : List (List Int)} (h : OLL w B v q L) : ∃ A c, v = .slice A L.length c ∧ L.length ≤ c ∧ RLL w A L.length L ∧ Fr B A := by
  obtain ⟨vs, h1, h2, h3⟩ := h
  obtain ⟨A, c, rfl, h4, h5⟩ := own_form h1
  refine ⟨A, c, rfl, h4, ⟨vs, Reads.of_own h1, rfl, fun i u ys hu hy => ?_⟩, own_fresh h1⟩
  obtain ⟨A', k, c', e1, e2, e3, _⟩ := h3 i u ys hu hy
  exact ⟨A', k, c', e1, e2, e3⟩
end Go.Proofs.YticekkjambkifaaGreatDoor

namespace Go.Proofs.YticekkjambkifaaGreatDoor
open Go.RowKit CoBit CoRat Rt

/-- A set without another. -/
def mns (x m : Nat) : Nat := x &&& (18446744073709551615 - m)
theorem mns_lt {x m : Nat} (h : x < 18446744073709551616) : mns x m < 18446744073709551616 := and_lt' h
theorem mns_bit {x m : Nat} (hx : x < 18446744073709551616) (hm : m < 18446744073709551616) (i : Nat) : (mns x m).testBit i = (x.testBit i && !m.testBit i) := by
  unfold mns
  rw [Nat.testBit_and]
  by_cases hi : i < 64
  · rw [show (18446744073709551615 - m : Nat) = 2 ^ 64 - (m + 1) by rw [show (2 : Nat) ^ 64 = 18446744073709551616 by decide +kernel]; omega, Nat.testBit_two_pow_sub_succ (by rw [show (2 : Nat) ^ 64 = 18446744073709551616 by decide +kernel]; exact hm)]
    simp [hi]
  · have h1 : x.testBit i = false := by
      refine Nat.testBit_lt_two_pow (Nat.lt_of_lt_of_le hx ?_)
      rw [show (18446744073709551616 : Nat) = 2 ^ 64 by decide +kernel]
      exact Nat.pow_le_pow_right (by omega) (by omega)
    rw [h1]; simp
/-- What is left, the record and the rounds before round k. -/
def rndK (n : Nat) (es : List (Int × Int)) (a d : Nat) : Nat → Nat × (Nat × Int × Int) × List (List Int)
  | 0 => (2 ^ n - 1, (0, 0, 0), [])
  | k + 1 => if (rndK n es a d k).1 = 0 then rndK n es a d k else
      (mns (rndK n es a d k).1 (fewM n es (rndK n es a d k).1 a d), offV es (rndK n es a d k).1 (rndK n es a d k).2.1, (rndK n es a d k).2.2 ++ [bset (fewM n es (rndK n es a d k).1 a d)])
section
variable {n : Nat} {es : List (Int × Int)} {a d : Nat}
theorem rndK_stop {k : Nat} (h : (rndK n es a d k).1 = 0) (j : Nat) : rndK n es a d (k + j) = rndK n es a d k := by
  induction j with
  | zero => rfl
  | succ j ih =>
    show (if (rndK n es a d (k + j)).1 = 0 then rndK n es a d (k + j) else _) = _
    rw [ih, if_pos h]
theorem rndK_next {k : Nat} (h : (rndK n es a d k).1 ≠ 0) : rndK n es a d (k + 1) = (mns (rndK n es a d k).1 (fewM n es (rndK n es a d k).1 a d), offV es (rndK n es a d k).1 (rndK n es a d k).2.1, (rndK n es a d k).2.2 ++ [bset (fewM n es (rndK n es a d k).1 a d)]) := if_neg h
theorem rndK_lt (hn : n ≤ 64) (k : Nat) : (rndK n es a d k).1 < 18446744073709551616 := by
  induction k with
  | zero => exact two_lt hn
  | succ k ih =>
    by_cases h : (rndK n es a d k).1 = 0
    · rw [rndK_stop h 1]; exact ih
    · rw [rndK_next h]; exact mns_lt ih
theorem rndK_in (hn : n ≤ 64) (k i : Nat) (hi : (rndK n es a d k).1.testBit i = true) : i < n := by
  induction k with
  | zero =>
    have := all_bit n i
    rw [show (rndK n es a d 0).1 = 2 ^ n - 1 from rfl, this] at hi
    simpa using hi
  | succ k ih =>
    by_cases h : (rndK n es a d k).1 = 0
    · rw [rndK_stop h 1] at hi; exact ih hi
    · rw [rndK_next h] at hi
      simp only at hi
      rw [mns_bit (rndK_lt hn k) (fewM_lt _ _ _ _ _), Bool.and_eq_true] at hi
      exact ih hi.1
theorem rndK_len (k : Nat) : (rndK n es a d k).2.2.length ≤ k := by
  induction k with
  | zero => exact Nat.le_refl _
  | succ k ih =>
    by_cases h : (rndK n es a d k).1 = 0
    · rw [rndK_stop h 1]; omega
    · rw [rndK_next h]; simp; omega
theorem rndK_flat (k : Nat) : (rndK n es a d k).2.2.flatten.length ≤ 64 * k := by
  induction k with
  | zero => exact Nat.le_refl _
  | succ k ih =>
    by_cases h : (rndK n es a d k).1 = 0
    · rw [rndK_stop h 1]; omega
    · rw [rndK_next h]
      simp only [List.flatten_append, List.length_append, List.flatten_cons, List.flatten_nil, List.append_nil]
      have := bset_length (fewM n es (rndK n es a d k).1 a d)
      omega
theorem rndK_rec (hn : n ≤ 64) (k : Nat) : (rndK n es a d k).2.1.1 < 18446744073709551616 := by
  induction k with
  | zero => show (0 : Nat) < _; omega
  | succ k ih =>
    by_cases h : (rndK n es a d k).1 = 0
    · rw [rndK_stop h 1]; exact ih
    · rw [rndK_next h]
      simp only
      unfold offV
      split
      · exact rndK_lt hn k
      · split
        · exact rndK_lt hn k
        · exact ih
end
end Go.Proofs.YticekkjambkifaaGreatDoor

namespace Go.Proofs.YticekkjambkifaaGreatDoor
open Go.RowKit CoBit CoRat Rt

/-- Rounds, a peeling and an error are returned. -/
def RetRnd (w : World) (Ls : List (List Int)) (o S : List Int) (N D err : Int) (e : Ending) (w' : World) : Prop := ∃ A0 n0 c0 A1 n1 c1 A2 n2 c2, e = .returned (.tuple #[.slice A0 n0 c0, .agg #[.slice A1 n1 c1, .slice A2 n2 c2, .int .i64 N, .int .i64 D], .int .i64 err]) ∧ n0 ≤ c0 ∧ n1 ≤ c1 ∧ n2 ≤ c2 ∧ RLL w' A0 n0 Ls ∧ RI w' A1 n1 o ∧ RI w' A2 n2 S ∧ Below w.heap.size w w'
theorem RLL.kept {w w' : World} {B : Nat} {v : Value} {q : Option Nat} {L : List (List Int)} {g : Nat} {A : Option Addr} {c : Nat} (h : OLL w B v q L) (hg : w.grownBy w' (some g)) (hgB : g < B) (hv : v = .slice A L.length c) : RLL w' A L.length L := by
  obtain ⟨A', c', e, _, h2, _⟩ := (h.grown hg hgB).read
  rw [hv] at e
  injection e with e
  rw [e]; exact h2
theorem bset_nts (x : Nat) : nts (bl x) = bset x := rfl

end Go.Proofs.YticekkjambkifaaGreatDoor

/- The law PeelTakes: its plain law. -/
set_option linter.unusedVariables false
set_option linter.unusedSimpArgs false
set_option linter.unusedSectionVars false
namespace Go.Proofs.YticekkjambkifaaGreatDoor
open Go.RowKit CoBit CoRat Rt

theorem mem_bset' {x : Nat} (hx : x < 18446744073709551616) {i : Nat} : (i : Int) ∈ bset x ↔ x.testBit i = true := by
  rw [mem_bset]
  refine ⟨fun h => h.2, fun h => ⟨?_, h⟩⟩
  rcases Nat.lt_or_ge i 64 with h1 | h1
  · exact h1
  · have : x.testBit i = false := Nat.testBit_lt_two_pow (Nat.lt_of_lt_of_le hx (by rw [show (18446744073709551616 : Nat) = 2 ^ 64 by decide +kernel]; exact Nat.pow_le_pow_right (by omega) h1))
    rw [this] at h; cases h
theorem bset_nat {x : Nat} {v : Int} (h : v ∈ bset x) : ∃ i : Nat, v = (i : Int) := by
  obtain ⟨i, _, rfl⟩ := mem_nts.1 h
  exact ⟨i, rfl⟩
theorem bset_zero : bset 0 = [] := by decide +kernel
theorem bset_ne {x : Nat} (hx : x < 18446744073709551616) (h : x ≠ 0) : bset x ≠ [] := by
  intro he
  refine h ?_
  refine Nat.eq_of_testBit_eq fun i => ?_
  rw [Nat.zero_testBit]
  cases hb : x.testBit i with
  | false => rfl
  | true => have := (mem_bset' hx).2 hb; rw [he] at this; cases this
section
variable {n : Nat} {es : List (Int × Int)} {a d : Nat}
theorem pop_bset (x : Nat) : pop x = (bset x).length := by rw [pop_bl]; unfold bset; rw [nts_length]
theorem fewP_iff (hc : chkG n es = 0) (hn : n ≤ 64) (x v : Nat) : fewP n es x a d v = true ↔ dg (nbG n es) (bset x) v * (bset x).length * d ≤ 2 * (d + a) * insE es (bset x) := by
  unfold fewP
  rw [decide_eq_true_iff, pop_row hc hn, pop_bset]
/-- In every round some node is taken. -/
theorem few_some (hc : chkG n es = 0) (hn : n ≤ 64) {x : Nat} (hx : x < 18446744073709551616) (h0 : x ≠ 0) : fewM n es x a d ≠ 0 := by
  have hne := bset_ne hx h0
  have hlen : 0 < (bset x).length := List.length_pos_iff.2 hne
  have hh := hand hc (sorted_nodup (bset_sorted x))
  obtain ⟨v, hv, hle⟩ := sum_part (l := bset x) (f := fun v => dg (nbG n es) (bset x) v) (a := (bset x).length) (b := 2 * insE es (bset x)) (by rw [hh]; exact Nat.le_of_eq (Nat.mul_comm _ _)) hlen
  obtain ⟨i, rfl⟩ := bset_nat hv
  have hb := mem_bset.1 hv
  intro he
  have : (fewM n es x a d).testBit i = true := by
    rw [fewM_bit, fewP_iff hc hn]
    refine ⟨hb, ?_⟩
    refine Nat.le_trans (Nat.mul_le_mul_right d hle) ?_
    have e1 : 2 * insE es (bset x) * d = 2 * d * insE es (bset x) := by grind
    rw [e1]
    exact Nat.mul_le_mul_right _ (Nat.mul_le_mul_left 2 (by omega))
  rw [he, Nat.zero_testBit] at this
  cases this
/-- The rounds and what is left are all nodes. -/
theorem rnd_perm (hn : n ≤ 64) (k : Nat) : ((rndK n es a d k).2.2.flatten ++ bset (rndK n es a d k).1).Perm (rng n) := by
  induction k with
  | zero =>
    show ([] ++ bset (2 ^ n - 1)).Perm (rng n)
    rw [List.nil_append]
    refine (List.perm_ext_iff_of_nodup (sorted_nodup (bset_sorted _)) ?_).2 fun x => ?_
    · unfold rng
      unfold List.Nodup
      rw [List.pairwise_map]
      exact (show List.Pairwise (· ≠ ·) (List.range n) from List.nodup_range).imp fun h e => h (by omega)
    · unfold rng
      constructor
      · intro h
        obtain ⟨i, rfl⟩ := bset_nat h
        have := (mem_bset.1 h).2
        rw [all_bit] at this
        rw [List.mem_map]
        exact ⟨i, List.mem_range.2 (by simpa using this), rfl⟩
      · intro h
        rw [List.mem_map] at h
        obtain ⟨i, hi, rfl⟩ := h
        rw [List.mem_range] at hi
        exact mem_bset.2 ⟨by omega, by rw [all_bit]; simpa using hi⟩
  | succ k ih =>
    by_cases h : (rndK n es a d k).1 = 0
    · rw [rndK_stop h 1]; exact ih
    · rw [rndK_next h]
      simp only [List.flatten_append, List.flatten_cons, List.flatten_nil, List.append_nil, List.append_assoc]
      refine List.Perm.trans (List.Perm.append_left _ ?_) ih
      have hL := rndK_lt (es := es) (a := a) (d := d) hn k
      have hM := fewM_lt n es (rndK n es a d k).1 a d
      have hN := mns_lt (m := fewM n es (rndK n es a d k).1 a d) hL
      refine (List.perm_ext_iff_of_nodup ?_ (sorted_nodup (bset_sorted _))).2 fun x => ?_
      · rw [List.nodup_append]
        refine ⟨sorted_nodup (bset_sorted _), sorted_nodup (bset_sorted _), ?_⟩
        intro x hx y hy he
        subst he
        obtain ⟨i, rfl⟩ := bset_nat hx
        have h1 := (mem_bset' hM).1 hx
        have h2 := (mem_bset' hN).1 hy
        rw [mns_bit hL hM, h1] at h2
        simp at h2
      · rw [List.mem_append]
        constructor
        · rintro (hx | hx)
          · obtain ⟨i, rfl⟩ := bset_nat hx
            have h1 := (mem_bset' hM).1 hx
            exact (mem_bset' hL).2 ((fewM_bit _ _ _ _ _ _).1 h1).1.2
          · obtain ⟨i, rfl⟩ := bset_nat hx
            have h1 := (mem_bset' hN).1 hx
            rw [mns_bit hL hM, Bool.and_eq_true] at h1
            exact (mem_bset' hL).2 h1.1
        · intro hx
          obtain ⟨i, rfl⟩ := bset_nat hx
          have h1 := (mem_bset' hL).1 hx
          cases hb : (fewM n es (rndK n es a d k).1 a d).testBit i with
          | true => exact .inl ((mem_bset' hM).2 hb)
          | false => exact .inr ((mem_bset' hN).2 (by rw [mns_bit hL hM, h1, hb]; rfl))
theorem rnd_ne (hc : chkG n es = 0) (hn : n ≤ 64) (k : Nat) : ∀ r ∈ (rndK n es a d k).2.2, r ≠ [] := by
  induction k with
  | zero => intro r hr; cases hr
  | succ k ih =>
    by_cases h : (rndK n es a d k).1 = 0
    · rw [rndK_stop h 1]; exact ih
    · rw [rndK_next h]
      intro r hr
      simp only [List.mem_append, List.mem_singleton] at hr
      rcases hr with hr | hr
      · exact ih r hr
      · subst hr
        exact bset_ne (fewM_lt _ _ _ _ _) (few_some hc hn (rndK_lt hn k) h)
theorem rnd_fall (hc : chkG n es = 0) (hn : n ≤ 64) (k : Nat) : (rndK n es a d k).1 = 0 ∨ k ≤ (rndK n es a d k).2.2.flatten.length := by
  induction k with
  | zero => exact .inr (Nat.zero_le _)
  | succ k ih =>
    by_cases h : (rndK n es a d k).1 = 0
    · rw [rndK_stop h 1]; exact .inl h
    · rw [rndK_next h]
      refine .inr ?_
      simp only [List.flatten_append, List.length_append, List.flatten_cons, List.flatten_nil, List.append_nil]
      have h1 := bset_ne (fewM_lt n es (rndK n es a d k).1 a d) (few_some hc hn (rndK_lt hn k) h)
      have h2 := List.length_pos_iff.2 h1
      rcases ih with ih | ih
      · exact absurd ih h
      · omega
theorem rnd_end (hc : chkG n es = 0) (hn : n ≤ 64) : (rndK n es a d n).1 = 0 := by
  rcases rnd_fall (a := a) (d := d) hc hn n with h | h
  · exact h
  · have hp := (rnd_perm (es := es) (a := a) (d := d) hn n).length_eq
    rw [List.length_append] at hp
    have hr : (rng n).length = n := by unfold rng; simp
    rw [hr] at hp
    have h0 : (bset (rndK n es a d n).1).length = 0 := by omega
    by_cases he : (rndK n es a d n).1 = 0
    · exact he
    · exact absurd (List.eq_nil_of_length_eq_zero h0) (bset_ne (rndK_lt hn n) he)
theorem rnd_all (hc : chkG n es = 0) (hn : n ≤ 64) : (rndK n es a d n).2.2.flatten.Perm (rng n) := by
  have := rnd_perm (es := es) (a := a) (d := d) hn n
  rw [rnd_end hc hn, bset_zero, List.append_nil] at this
  exact this
theorem rnd_first (h0 : 0 < n) (k : Nat) : (rndK n es a d (k + 1)).2.2[0]? = some (bset (fewM n es (2 ^ n - 1) a d)) := by
  induction k with
  | zero =>
    have h : (rndK n es a d 0).1 ≠ 0 := by
      show 2 ^ n - 1 ≠ 0
      have : 2 ^ 1 ≤ 2 ^ n := Nat.pow_le_pow_right (by omega) h0
      omega
    rw [rndK_next h]; rfl
  | succ k ih =>
    by_cases h : (rndK n es a d (k + 1)).1 = 0
    · rw [rndK_stop h 1]; exact ih
    · rw [rndK_next h]
      simp only
      obtain ⟨hl, he⟩ := List.getElem?_eq_some_iff.1 ih
      rw [List.getElem?_append_left hl]; exact ih
end
/-- A greater fraction takes no fewer. -/
theorem few_mono {n : Nat} {es : List (Int × Int)} {a d a' d' : Nat} (h : a * d' ≤ a' * d) (hd : 0 < d) (x : Nat) (v : Int) (hv : v ∈ bset (fewM n es x a d)) : v ∈ bset (fewM n es x a' d') := by
  obtain ⟨i, rfl⟩ := bset_nat hv
  rw [mem_bset' (fewM_lt _ _ _ _ _), fewM_bit] at hv ⊢
  refine ⟨hv.1, ?_⟩
  have h1 := hv.2
  unfold fewP at h1 ⊢
  rw [decide_eq_true_iff] at h1 ⊢
  generalize pop ((rowsL n es).getD i 0 &&& x) * pop x = T at *
  generalize insE es (bset x) = I at *
  refine Nat.le_of_mul_le_mul_left (c := d) ?_ hd
  have e1 : d * (T * d') = T * d * d' := by grind
  have e2 : d * (2 * (d' + a') * I) = 2 * (d * d' + a' * d) * I := by grind
  rw [e1, e2]
  refine Nat.le_trans (Nat.mul_le_mul_right d' h1) ?_
  have e3 : 2 * (d + a) * I * d' = 2 * (d * d' + a * d') * I := by grind
  rw [e3]
  exact Nat.mul_le_mul_right I (Nat.mul_le_mul_left 2 (by omega))
/-- The fractions of the laws. -/
def frcOk (i j : Nat) : Bool :=
  let xN := mkN (i : Int) (j : Int); let xD := mkD (i : Int) (j : Int)
  let yN := addN xN xD (mkN 1 3) (mkD 1 3); let yD := addD xN xD (mkN 1 3) (mkD 1 3)
  okF xN xD && decide (0 ≤ xN) && decide (xN ≤ 1048576) && decide (xD ≤ 1048576) && okF yN yD && decide (0 ≤ yN) && decide (yN ≤ 1048576) && decide (yD ≤ 1048576) && decide (xN * yD ≤ yN * xD) && decide (0 < xD)
theorem frc_all : ((List.range 6).all fun i => (List.range 6).all fun j => j == 0 || frcOk i j) = true := by decide +kernel
end Go.Proofs.YticekkjambkifaaGreatDoor

namespace Go.Proofs.YticekkjambkifaaGreatDoor
open Go.RowKit CoBit

set_option maxHeartbeats 1000000 in
theorem of_nil (c : Nat) (w : World) : Calls Tryz.prog 66 #[.slice none 0 c] w fun e w' => e = .returned (.slice none 0 0) ∧ w = w' := by
  go_enter Tryz.func66, Tryz.ntmps66
  go_wp2_with fail
  go_loop [3, 8] (fun v i => v = .slice none 0 0 ∧ i = .int .i64 0) (fun _ i => 0)
  case atStart => exact ⟨rfl, rfl⟩
  case round =>
    obtain ⟨rfl, rfl⟩ := hrel
    go_wp2_with fail
    go_ret
    exact ⟨rfl, rfl⟩
set_option maxHeartbeats 1000000 in
theorem range_nil (w : World) : Calls Tryz.prog 45 #[.int .i64 0] w fun e w' => e = .returned (.slice none 0 0) ∧ w = w' := by
  go_enter Tryz.func45, Tryz.ntmps45
  go_wp2_with fail
  go_loop [3, 4] (fun v i => v = .slice none 0 0 ∧ i = .int .i64 0) (fun _ i => 0)
  case atStart => exact ⟨rfl, rfl⟩
  case round =>
    obtain ⟨rfl, rfl⟩ := hrel
    go_wp2_with fail
    go_ret
    exact ⟨rfl, rfl⟩
end Go.Proofs.YticekkjambkifaaGreatDoor
