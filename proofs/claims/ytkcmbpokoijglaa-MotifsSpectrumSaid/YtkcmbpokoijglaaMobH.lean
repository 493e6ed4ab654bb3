/- Words for the laws of motifs: what does not lie in the deck's block stays as the deck is turned. -/
import Derived.Test.YtkcmbpokoijglaaMobG
import Derived.Test.YtkcmbpokoijglaaMotU
set_option linter.unusedVariables false
set_option linter.unusedSimpArgs false
namespace CoMot
theorem insL_row (l : List Tick) (s : List Step) (v most : Int) : ∀ x ∈ insL l s v most, x.length ≤ 4 := by
  intro x hx
  unfold insL at hx
  split at hx
  · rename_i he
    have hc : chkA l s v = 0 := by
      unfold insE at he
      split at he
      · assumption
      · rename_i h; exact absurd he h
    unfold chkA at hc
    have hl : chkL l = 0 := by
      split at hc
      · rename_i h; exact absurd hc h
      · rename_i h; simpa using h
    rw [if_neg (by rw [hl]; simp)] at hc
    have hv : vld s = true := by
      cases h : vld s with
      | true => rfl
      | false => rw [if_pos h] at hc; cases hc
    rw [if_neg (by rw [hv]; simp)] at hc
    have hw : 0 ≤ v := by
      unfold spn at hc
      split at hc
      · cases hc
      · rename_i h; omega
    obtain ⟨p, hp, rfl⟩ := List.mem_map.1 hx
    have ht : ∀ y ∈ l, 0 ≤ y.t := by
      have : ∀ (r : List Tick) (last : Int), 0 ≤ last → chkT last r = 0 → ∀ y ∈ r, 0 ≤ y.t := by
        intro r
        induction r with
        | nil => intro _ _ _ y hy; cases hy
        | cons x r ih =>
          intro last h0 h1 y hy
          unfold chkT at h1
          split at h1
          · cases h1
          · split at h1
            · cases h1
            · rename_i h2
              rcases List.mem_cons.1 hy with rfl | hy
              · omega
              · exact ih x.t (by omega) h1 y hy
      unfold chkL at hl
      split at hl
      · cases hl
      · exact this l 0 (by omega) hl
    have := (mem_inst hw ht p).1 hp
    have h4 := (vld_iff s).1 hv
    omega
  · cases hx
theorem ofR_len (l : List Tick) : ((ofR l).getD []).length ≤ 4 := by
  unfold ofR
  split
  · simp
  · rename_i h
    cases e : ofL (l.map pr) with
    | none => simp
    | some m =>
      have := ofL_len e
      rw [List.length_map] at this
      simp only [Option.getD_some]; omega
theorem insL_len (l : List Tick) (s : List Step) (v most : Int) : (insL l s v most).length ≤ 4096 := by
  unfold insL
  split
  · rename_i he
    unfold insE at he
    split at he
    · split at he
      · cases he
      · split at he
        · cases he
        · rw [List.length_map]; omega
    · rename_i h; exact absurd he h
  · simp
end CoMot
namespace Go.Proofs.Ytkcmbpokoijglaa
open Go.RowKit CoMot

/-- The slice reads as the lists L, and nothing of it lies in block g. -/
def RLg {α : Type} (E : El α) (w : World) (g : Nat) (A : Option Addr) (n : Nat) (L : List (List α)) : Prop := ∃ vs : List Value, Reads w w.heap.size 1 A n vs ∧ L.length = n ∧ (∀ ad, A = some ad → ad.block ≠ g) ∧
  ∀ (i : Nat) (u : Value) (ys : List α), vs[i]? = some u → L[i]? = some ys → ∃ A k c, u = .slice A k c ∧ k ≤ c ∧ RS E w A k ys ∧ (∀ ad, A = some ad → 0 < k → ad.block ≠ g)
section
variable {α : Type} {E : El α} {t : TypeId} {w w' : World} {b n g : Nat} {A : Option Addr} {L : List (List α)}
theorem RLg.of_blk {g0 : Nat} {cs : Array Value} (h : Blk w g0 t cs) (hg : g0 ≠ g) (hn : cs.size = L.length) (hL : n = L.length)
    (hv : ∀ (i : Nat) (u : Value) (ys : List α), cs[i]? = some u → L[i]? = some ys → ∃ A k c, u = .slice A k c ∧ k ≤ c ∧ RS E w A k ys ∧ (∀ ad, A = some ad → 0 < k → ad.block ≠ g)) : RLg E w g (some ⟨g0, 0, none⟩) n L := by
  subst hL
  refine ⟨cs.toList, ⟨by rw [Nat.mul_one, Array.length_toList]; exact hn, fun _ => ⟨_, rfl, h.lt, fun j u hu => ?_⟩⟩, rfl, fun ad e => by cases e; exact hg, fun i u ys hu hy => hv i u ys (by simpa using hu) hy⟩
  have hadd : (⟨g0, 0, none⟩ : Addr).add j = ⟨g0, j, none⟩ := by unfold Addr.add; split <;> simp_all
  rw [hadd, Blk.cell h]
  simpa using hu
theorem RLg.below (h : RLg E w g A n L) (hb : Below b w w') (hB : w.heap.size ≤ b) : RLg E w' g A n L := by
  obtain ⟨vs, h1, h2, h3, h4⟩ := h
  refine ⟨vs, (Reads.below h1 hb hB).more hb.size, h2, h3, fun i u ys hu hy => ?_⟩
  obtain ⟨A, k, c, e1, e2, e3, e4⟩ := h4 i u ys hu hy
  exact ⟨A, k, c, e1, e2, e3.below hb hB, e4⟩
theorem RLg.grown (h : RLg E w g A n L) (hg : w.grownBy w' (some g)) : RLg E w' g A n L := by
  obtain ⟨vs, h1, h2, h3, h4⟩ := h
  refine ⟨vs, ⟨h1.1, fun hn => ?_⟩, h2, h3, fun i u ys hu hy => ?_⟩
  · obtain ⟨ad, e, hb, hc⟩ := h1.2 hn
    exact ⟨ad, e, Nat.lt_of_lt_of_le hb hg.size, fun j u hu => (World.cell?_of_block (hg.block (ad.add j).block (by rw [block_of_add]; exact hb) (by rw [block_of_add]; intro e'; injection e' with e'; exact h3 ad e e'))).trans (hc j u hu)⟩
  · obtain ⟨A, k, c, e1, e2, e3, e4⟩ := h4 i u ys hu hy
    exact ⟨A, k, c, e1, e2, e3.kept0 hg (fun ad e hk e' => by injection e' with e'; exact e4 ad e hk e'), e4⟩
theorem RLg.drewN (h : RLg E w g A n L) (k : Nat) : RLg E (w.drewN k) g A n L := h
theorem RLg.drew (h : RLg E w g A n L) : RLg E w.drew g A n L := h
theorem RLg.len (h : RLg E w g A n L) : L.length = n := by obtain ⟨vs, h1, h2, _⟩ := h; exact h2
theorem RLg.get (h : RLg E w g A n L) {i : Nat} (hi : i < n) : ∃ ad A' k c ys, A = some ad ∧ w.cell? (ad.add i) = some (.slice A' k c) ∧ Hid (L[i]? = some ys) ∧ k ≤ c ∧ RS E w A' k ys ∧ (∀ ad, A' = some ad → 0 < k → ad.block ≠ g) ∧ ad.block < w.heap.size := by
  obtain ⟨vs, h1, h2, h3, h4⟩ := h
  obtain ⟨ad, u, e, hlt, hu, hc⟩ := Reads.at_ h1 hi
  have hy : L[i]? = some (L[i]'(by omega)) := List.getElem?_eq_getElem (by omega)
  obtain ⟨A', k, c, rfl, e2, e3, e4⟩ := h4 i u _ hu hy
  exact ⟨ad, A', k, c, _, e, hc, Lib.hid hy, e2, e3, e4, hlt⟩
theorem RLg.same (h : RLg E w g A n L) (hs : Same (fun k => k = g) w w') : RLg E w' g A n L := by
  obtain ⟨vs, h1, h2, h3, h4⟩ := h
  refine ⟨vs, ⟨h1.1, fun hn => ?_⟩, h2, h3, fun i u ys hu hy => ?_⟩
  · obtain ⟨ad, e, hb, hc⟩ := h1.2 hn
    exact ⟨ad, e, Nat.lt_of_lt_of_le hb hs.size, fun j u hu => (World.cell?_of_block (hs.block (ad.add j).block (by rw [block_of_add]; exact hb) (by rw [block_of_add]; exact h3 ad e))).trans (hc j u hu)⟩
  · obtain ⟨A, k, c, e1, e2, e3, e4⟩ := h4 i u ys hu hy
    exact ⟨A, k, c, e1, e2, e3.same hs (fun ad he hp => e4 ad he hp), e4⟩
end

/-- The slice reads as the elements, and does not lie in block g. -/
def RX {α : Type} (E : El α) (g : Nat) (W : World) (A : Option Addr) (n : Nat) (xs : List α) : Prop := RS E W A n xs ∧ ∀ ad, A = some ad → 0 < n → ad.block ≠ g
section
variable {α : Type} {E : El α} {g n : Nat} {W W' : World} {A : Option Addr} {xs : List α}
theorem RX.rs (h : RX E g W A n xs) : RS E W A n xs := h.1
theorem RX.same (h : RX E g W A n xs) (hs : Same (fun k => k = g) W W') : RX E g W' A n xs := ⟨h.1.same hs (fun ad he hp => h.2 ad he hp), h.2⟩
theorem RX.below {b : Nat} (h : RX E g W A n xs) (hb : Below b W W') (hB : W.heap.size ≤ b) : RX E g W' A n xs := ⟨h.1.below hb hB, h.2⟩
theorem RX.new {H : Nat} (h : RS E W A n xs) (hf : Fr H A) (hg : g < H) : RX E g W A n xs := ⟨h, fun ad he _ hx => by have := hf ad he; omega⟩
theorem RX.old (h : RS E W A n xs) (hg : W.heap.size ≤ g) : RX E g W A n xs := ⟨h, h.farg hg⟩
end
theorem addr_lit (g j : Nat) : (⟨g, 0, none⟩ : Addr).add j = ⟨g, j, none⟩ := by unfold Addr.add; split <;> simp_all
theorem same_dk {g : Nat} {W W' : World} (h : W.grownBy W' (some g)) : Same (fun k => k = g) W W' := (Same.of_grown h).mono (fun k _ he => by injection he with he; exact he.symm)
theorem same_bl {g : Nat} {W W' : World} (h : Below W.heap.size W W') : Same (fun k => k = g) W W' := Same.of_below h (Nat.le_refl _) _
theorem dk_bl {g : Nat} {W W' : World} (h : Dk W g) (hb : Below W.heap.size W W') : Dk W' g := h.below hb h.lt
end Go.Proofs.Ytkcmbpokoijglaa
