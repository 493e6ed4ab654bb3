/- Batches of any size, and Append at journals that are not long: journal and reference say the same. Rows of a literal list of lists. -/
import Derived.Test.YtbaebeackbciaaaJoaD
set_option linter.unusedVariables false
set_option linter.unusedSimpArgs false
namespace Go.Proofs.Ytbaebeackbciaaa
open Go.RowKit CoEv

/-- m parts are written, or the last of them is an error. -/
def bOk (A : Option Addr) (n k : Nat) (xs : List Ev) (m : Nat) : Prop := (∀ j, j < m → j * k < n) ∧ (n ≤ m * k ∨ (st (cks A n k xs m)).2 ≠ 0)
theorem cks_add (A : Option Addr) (n k : Nat) (xs : List Ev) (m d : Nat) : ∃ R, cks A n k xs (m + d) = cks A n k xs m ++ R := by
  unfold cks
  rw [List.range_add, List.map_append]
  exact ⟨_, rfl⟩
theorem bOk_same {A : Option Addr} {n k : Nat} {xs : List Ev} {m m' : Nat} (h : bOk A n k xs m) (h' : bOk A n k xs m') (hle : m ≤ m') :
    btr (cks A n k xs m') = btr (cks A n k xs m) ∧ (st (cks A n k xs m')).2 = (st (cks A n k xs m)).2 := by
  rcases Nat.eq_or_lt_of_le hle with rfl | hlt
  · exact ⟨rfl, rfl⟩
  · have h1 := h'.1 m hlt
    have h2 : (st (cks A n k xs m)).2 ≠ 0 := by
      rcases h.2 with h2 | h2
      · omega
      · exact h2
    obtain ⟨d, rfl⟩ := Nat.exists_eq_add_of_le hle
    obtain ⟨R, hR⟩ := cks_add A n k xs m d
    have h3 := st_stuck h2 R
    rw [hR]
    refine ⟨?_, h3⟩
    unfold btr
    rw [if_neg h2, if_neg (by rw [h3]; exact h2)]
open Classical in
/-- What Batches answers. -/
noncomputable def bRes (A : Option Addr) (n k : Nat) (xs : List Ev) : List Nat × Int := if h : ∃ m, bOk A n k xs m then (btr (cks A n k xs h.choose), (st (cks A n k xs h.choose)).2) else ([], 0)
theorem bRes_of {A : Option Addr} {n k : Nat} {xs : List Ev} {m : Nat} (h : bOk A n k xs m) : bRes A n k xs = (btr (cks A n k xs m), (st (cks A n k xs m)).2) := by
  unfold bRes
  have hex : ∃ m, bOk A n k xs m := ⟨m, h⟩
  rw [dif_pos hex]
  have h2 := hex.choose_spec
  rcases Nat.le_total m hex.choose with hle | hle
  · obtain ⟨e1, e2⟩ := bOk_same h h2 hle
    rw [e1, e2]
  · obtain ⟨e1, e2⟩ := bOk_same h2 h hle
    rw [e1, e2]
set_option maxRecDepth 100000 in
set_option maxHeartbeats 4000000 in
theorem rbatches_bad (A : Option Addr) (n c : Nat) (k : Int) (w : World) (hk : k < 1 ∨ 255 < k) : Calls Try.prog 27 #[.slice A n c, .int .i64 k] w (RetGE BE w [] 1) := by
  rcases hk with hk | hk
  · have q1 : decide (k < 1) = true := by simp; omega
    go_enter Try.func27, Try.ntmps27
    go_wp2_with fail
    refine bodyPost_ret (v := .tuple #[.slice none 0 0, .int .i64 1]) (by simp [results, Try.results27, go_sem]) rfl ?_
    exact ⟨none, 0, 0, rfl, Nat.le_refl _, RS.none_, Below.refl _ _, Fr.none_⟩
  · have q1 : decide (k < 1) = false := by simp; omega
    have q2 : decide (255 < k) = true := by simp; omega
    go_enter Try.func27, Try.ntmps27
    go_wp2_with fail
    refine bodyPost_ret (v := .tuple #[.slice none 0 0, .int .i64 1]) (by simp [results, Try.results27, go_sem]) rfl ?_
    exact ⟨none, 0, 0, rfl, Nat.le_refl _, RS.none_, Below.refl _ _, Fr.none_⟩
set_option maxRecDepth 100000 in
set_option maxHeartbeats 4000000 in
theorem jbatches_bad (A : Option Addr) (n c : Nat) (k : Int) (w : World) (hk : k < 1 ∨ 255 < k) : Calls Try.prog 26 #[.slice A n c, .int .i64 k] w (RetGE BE w [] 1) := by
  rcases hk with hk | hk
  · have q1 : decide (k < 1) = true := by simp; omega
    go_enter Try.func26, Try.ntmps26
    go_wp2_with fail
    refine bodyPost_ret (v := .tuple #[.slice none 0 0, .int .i64 1]) (by simp [results, Try.results26, go_sem]) rfl ?_
    exact ⟨none, 0, 0, rfl, Nat.le_refl _, RS.none_, by go_grown, Fr.none_⟩
  · have q1 : decide (k < 1) = false := by simp; omega
    have q2 : decide (255 < k) = true := by simp; omega
    go_enter Try.func26, Try.ntmps26
    go_wp2_with fail
    refine bodyPost_ret (v := .tuple #[.slice none 0 0, .int .i64 1]) (by simp [results, Try.results26, go_sem]) rfl ?_
    exact ⟨none, 0, 0, rfl, Nat.le_refl _, RS.none_, by go_grown, Fr.none_⟩
theorem both_batches (A : Option Addr) (n c : Nat) (k : Int) (xs : List Ev) (hc : n ≤ c) (hn : n ≤ 60000) : ∃ ys er, (∀ w, RS EE w A n xs → Calls Try.prog 26 #[.slice A n c, .int .i64 k] w (RetGE BE w ys er)) ∧ (∀ w, RS EE w A n xs → Calls Try.prog 27 #[.slice A n c, .int .i64 k] w (RetGE BE w ys er)) := by
  by_cases hk : k < 1 ∨ 255 < k
  · exact ⟨[], 1, fun w _ => jbatches_bad A n c k w hk, fun w _ => rbatches_bad A n c k w hk⟩
  · obtain ⟨K, rfl⟩ := Int.eq_ofNat_of_zero_le (a := k) (by omega)
    refine ⟨(bRes A n K xs).1, (bRes A n K xs).2, fun w h => (jbatches_any A n c K xs w h hc (by omega) (by omega) (by omega)).mono ?_, fun w h => (rbatches_any A n c K xs w h hc hn (by omega) (by omega)).mono ?_⟩
    · rintro e W' ⟨m, h1, h2, h3⟩
      rw [bRes_of ⟨h1, h2⟩]; exact h3
    · rintro e W' ⟨m, h1, h2, h3⟩
      rw [bRes_of ⟨h1, h2⟩]; exact h3
theorem both_append (J : Option Addr) (m d : Nat) (js : List Nat) (A : Option Addr) (n c : Nat) (xs : List Ev) (hmd : m ≤ d) (hm : m ≤ 100000) (hn : n ≤ 1099511627776) : ∃ ys er, (∀ w, RS BE w J m js → RS EE w A n xs → Calls Try.prog 17 #[.slice J m d, .slice A n c] w (RetGE BE w ys er)) ∧
    (∀ w, RS BE w J m js → RS EE w A n xs → Calls Try.prog 25 #[.slice J m d, .slice A n c] w (RetGE BE w ys er)) := by
  refine ⟨apL js xs, wrE js.length xs, fun w hj h => jappend_any J m d js A n c xs w hj hmd h hn (by omega), fun w hj h => ?_⟩
  have hl := hj.len
  have h1 := rappend_any J m d js A n c xs w hj h hn (by omega)
  have h2 : rwE js.length xs = wrE js.length xs := rwE_eq (by omega)
  have h3 : rapL js xs = apL js xs := by unfold rapL apL; rw [h2]
  rwa [h2, h3] at h1
/-- The slice reads as the lists L, and nothing of it lies in block g. -/
def RLg {α : Type} (E : El α) (w : World) (g : Nat) (A : Option Addr) (n : Nat) (L : List (List α)) : Prop := ∃ vs : List Value, Reads w w.heap.size 1 A n vs ∧ L.length = n ∧ (∀ ad, A = some ad → ad.block ≠ g) ∧
  ∀ (i : Nat) (u : Value) (ys : List α), vs[i]? = some u → L[i]? = some ys → ∃ A k c, u = .slice A k c ∧ k ≤ c ∧ RS E w A k ys ∧ (∀ ad, A = some ad → 0 < k → ad.block ≠ g)
section
variable {α : Type} {E : El α} {t : TypeId} {w w' : World} {b n g : Nat} {A : Option Addr} {L : List (List α)}
theorem RLg.of_blk {g0 : Nat} {cs : Array Value} (h : Blk w g0 t cs) (hg : g0 ≠ g) (hn : cs.size = L.length) (hL : n = L.length)
    (hv : ∀ (i : Nat) (u : Value) (ys : List α), cs[i]? = some u → L[i]? = some ys → ∃ A k c, u = .slice A k c ∧ k ≤ c ∧ RS E w A k ys ∧ (∀ ad, A = some ad → 0 < k → ad.block ≠ g)) : RLg E w g (some ⟨g0, 0, none⟩) n L := by
  subst hL
  refine ⟨cs.toList, ⟨by rw [Nat.mul_one, Array.length_toList]; exact hn, fun _ => ⟨_, rfl, h.lt, fun j u hu => ?_⟩⟩, rfl, fun ad e => by cases e; exact hg, fun i u ys hu hy => hv i u ys (by simpa using hu) hy⟩
  have hadd : (⟨g0, 0, none⟩ : Addr).add j = ⟨g0, j, none⟩ := by unfold Addr.add; split <;> simp_all
  rw [hadd, Blk.cell h]
  simpa using hu
theorem RLg.below (h : RLg E w g A n L) (hb : Below b w w') (hB : w.heap.size ≤ b) : RLg E w' g A n L := by
  obtain ⟨vs, h1, h2, h3, h4⟩ := h
  refine ⟨vs, (Reads.below h1 hb hB).more hb.size, h2, h3, fun i u ys hu hy => ?_⟩
  obtain ⟨A, k, c, e1, e2, e3, e4⟩ := h4 i u ys hu hy
  exact ⟨A, k, c, e1, e2, e3.below hb hB, e4⟩
theorem RLg.grown (h : RLg E w g A n L) (hg : w.grownBy w' (some g)) : RLg E w' g A n L := by
  obtain ⟨vs, h1, h2, h3, h4⟩ := h
  refine ⟨vs, ⟨h1.1, fun hn => ?_⟩, h2, h3, fun i u ys hu hy => ?_⟩
  · obtain ⟨ad, e, hb, hc⟩ := h1.2 hn
    exact ⟨ad, e, Nat.lt_of_lt_of_le hb hg.size, fun j u hu => (World.cell?_of_block (hg.block (ad.add j).block (by rw [block_of_add]; exact hb) (by rw [block_of_add]; intro e'; injection e' with e'; exact h3 ad e e'))).trans (hc j u hu)⟩
  · obtain ⟨A, k, c, e1, e2, e3, e4⟩ := h4 i u ys hu hy
    exact ⟨A, k, c, e1, e2, e3.kept0 hg (fun ad e hk e' => by injection e' with e'; exact e4 ad e hk e'), e4⟩
theorem RLg.drewN (h : RLg E w g A n L) (k : Nat) : RLg E (w.drewN k) g A n L := h
theorem RLg.drew (h : RLg E w g A n L) : RLg E w.drew g A n L := h
theorem RLg.len (h : RLg E w g A n L) : L.length = n := by obtain ⟨vs, h1, h2, _⟩ := h; exact h2
theorem RLg.get (h : RLg E w g A n L) {i : Nat} (hi : i < n) : ∃ ad A' k c ys, A = some ad ∧ w.cell? (ad.add i) = some (.slice A' k c) ∧ Hid (L[i]? = some ys) ∧ k ≤ c ∧ RS E w A' k ys ∧ (∀ ad, A' = some ad → 0 < k → ad.block ≠ g) ∧ ad.block < w.heap.size := by
  obtain ⟨vs, h1, h2, h3, h4⟩ := h
  obtain ⟨ad, u, e, hlt, hu, hc⟩ := Reads.at_ h1 hi
  have hy : L[i]? = some (L[i]'(by omega)) := List.getElem?_eq_getElem (by omega)
  obtain ⟨A', k, c, rfl, e2, e3, e4⟩ := h4 i u _ hu hy
  exact ⟨ad, A', k, c, _, e, hc, Lib.hid hy, e2, e3, e4, hlt⟩
end
end Go.Proofs.Ytbaebeackbciaaa
