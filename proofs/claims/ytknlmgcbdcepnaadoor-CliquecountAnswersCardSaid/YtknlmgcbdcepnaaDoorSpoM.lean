/- What is made of numbers (cohesionmake): Light and Spoilt. -/
import Derived.Test.YtknlmgcbdcepnaaDoorMakC
set_option linter.unusedVariables false
set_option linter.unusedSimpArgs false
namespace Go.Proofs.YtknlmgcbdcepnaaDoor
open Go.RowKit

/-- A block whose first cells are those of n edges, whichever. -/
def EB (w : World) (eb n : Nat) : Prop := ∃ cs : Array Value, Blk w eb 59 cs ∧ ∀ j, j < n * 2 → ∃ x : Int, cs[j]? = some (.int .i64 x)
section
variable {w w' : World} {eb n : Nat}
theorem EB.lt (h : EB w eb n) : eb < w.heap.size := by obtain ⟨_, h, _⟩ := h; exact h.lt
theorem EB.cell (h : EB w eb n) {j : Nat} (hj : j < n * 2) : ∃ x : Int, w.cell? ⟨eb, j, none⟩ = some (.int .i64 x) := by
  obtain ⟨cs, h1, h2⟩ := h
  obtain ⟨x, hx⟩ := h2 j hj
  exact ⟨x, (Blk.cell h1 j).trans hx⟩
theorem EB.frozen (h : EB w eb n) (j : Nat) : w.frozen? ⟨eb, j, none⟩ = false := by obtain ⟨cs, h1, _⟩ := h; exact Blk.frozen h1 j
theorem EB.drew (h : EB w eb n) : EB w.drew eb n := h
theorem EB.drewN (h : EB w eb n) (k : Nat) : EB (w.drewN k) eb n := h
theorem EB.far (h : EB w eb n) {p : Addr} (hp : eb ≠ p.block) (u : Value) : EB (w.setCell p u) eb n := by
  obtain ⟨cs, h1, h2⟩ := h
  exact ⟨cs, h1.far hp u, h2⟩
theorem EB.grown {row : Option Nat} (h : EB w eb n) (hg : w.grownBy w' row) (hr : some eb ≠ row) : EB w' eb n := by
  obtain ⟨cs, h1, h2⟩ := h
  exact ⟨cs, h1.grown hg hr, h2⟩
theorem EB.set (h : EB w eb n) (i : Nat) (x : Int) : EB (w.setCell ⟨eb, i, none⟩ (.int .i64 x)) eb n := by
  obtain ⟨cs, h1, h2⟩ := h
  refine ⟨_, h1.set i (.int .i64 x), fun j hj => ?_⟩
  obtain ⟨y, hy⟩ := h2 j hj
  have hlt : j < cs.size := by
    rcases Nat.lt_or_ge j cs.size with h | h
    · exact h
    · rw [Array.getElem?_eq_none h] at hy; cases hy
  rw [Array.getElem?_setIfInBounds]
  by_cases hij : i = j
  · subst hij; rw [if_pos rfl, if_pos hlt]; exact ⟨x, rfl⟩
  · rw [if_neg hij]; exact ⟨y, hy⟩
/-- The number in a cell. -/
def numV : Option Value → Int
  | some (.int .i64 x) => x
  | _ => 0
theorem add_off (eb j : Nat) : (⟨eb, 0, none⟩ : Addr).add j = ⟨eb, j, none⟩ := by unfold Addr.add; split <;> simp_all
theorem EB.re (h : EB w eb n) : ∃ es, RE w (some ⟨eb, 0, none⟩) n es := by
  obtain ⟨cs, h1, h2⟩ := h
  have hnum : ∀ j, j < n * 2 → cs[j]? = some (.int .i64 (numV cs[j]?)) := fun j hj => by
    obtain ⟨x, hx⟩ := h2 j hj
    rw [hx]; rfl
  refine ⟨(List.range n).map fun k => (numV cs[k * 2]?, numV cs[k * 2 + 1]?), ?_, fun _ => ⟨_, rfl, h1.lt, fun j u hu => ?_⟩⟩
  · rw [edgs_length, List.length_map, List.length_range]
  · rw [add_off, Blk.cell h1]
    have hj : j < n * 2 := by
      have := (List.getElem?_eq_some_iff.1 hu).1
      rwa [edgs_length, List.length_map, List.length_range] at this
    have hat : ((List.range n).map fun k => (numV cs[k * 2]?, numV cs[k * 2 + 1]?))[j / 2]? = some (numV cs[j / 2 * 2]?, numV cs[j / 2 * 2 + 1]?) := by
      rw [List.getElem?_map, List.getElem?_range (by omega)]; rfl
    obtain ⟨e1, e2⟩ := edgs_at hat
    rcases Nat.mod_two_eq_zero_or_one j with hm | hm
    · have hjj : j / 2 * 2 = j := by omega
      rw [hjj] at e1
      rw [e1] at hu
      rw [← hu]
      have := hnum j hj
      simpa [hjj] using this
    · have hjj : j / 2 * 2 + 1 = j := by omega
      rw [hjj] at e2
      rw [e2] at hu
      rw [← hu]
      have := hnum j hj
      simpa [hjj] using this
end
theorem EB.of_own {w : World} {B : Nat} {v : Value} {es : List (Int × Int)} (h : OE w B v es) (hn : 0 < es.length) : ∃ eb c, v = .slice (some ⟨eb, 0, none⟩) es.length c ∧ es.length ≤ c ∧ B ≤ eb ∧ EB w eb es.length := by
  rcases h.2 with ⟨_, h0⟩ | ⟨g, cap, cur, rfl, hB, hh, hc, hm, hs, ht⟩
  · omega
  refine ⟨g, cap, rfl, hc, hB, cur, hh, fun j hj => ?_⟩
  have hx : es[j / 2]? = some es[j / 2] := List.getElem?_eq_getElem (by omega)
  obtain ⟨e1, e2⟩ := edgs_at hx
  have key : ∀ u, (edgs es)[j]? = some u → cur[j]? = some u := fun u hu => by
    rw [← ht, List.getElem?_take, if_pos hj] at hu
    simpa using hu
  rcases Nat.mod_two_eq_zero_or_one j with hm | hm
  · rw [show j / 2 * 2 = j by omega] at e1; exact ⟨_, key _ e1⟩
  · rw [show j / 2 * 2 + 1 = j by omega] at e2; exact ⟨_, key _ e2⟩
set_option maxHeartbeats 1000000 in
theorem light_any (A : Option Addr) (m c : Nat) (n : Int) (k : Nat) (w : World) (hm : m ≤ 1152921504606846976) (hk : k ≤ 1000) :
    Calls Tryd.prog 28 #[.agg #[.int .i64 n, .slice A m c], .int .i64 k] w fun e w' => e = .returned (.bool (decide (n ≤ k ∧ m ≤ k * k))) ∧ Below w.heap.size w w' := by
  have hmul : ((k * k : Nat) : Int) = (k : Int) * (k : Int) := by simp
  have hkk : k * k ≤ 1000 * 1000 := Nat.mul_le_mul hk hk
  have hw : wrap64 ((k : Int) * (k : Int)) = ((k * k : Nat) : Int) := by rw [← hmul]; unfold wrap64; omega
  have hw2 : IntKind.i64.wrap ((k : Int) * (k : Int)) = ((k * k : Nat) : Int) := by rw [← hmul]; exact IntWalk.i64_in _ ⟨by omega, by omega⟩
  have hB1 : Below w.heap.size w (w.alloc (.cells #[.int .i64 n, .slice A m c] 24)) := (Below.refl _ w).alloc (Nat.le_refl _) _
  generalize k * k = K at *
  have hcase : (¬ n ≤ (k : Int) ∧ decide (n ≤ k ∧ m ≤ K) = false) ∨ (n ≤ (k : Int) ∧ (m : Int) ≤ (K : Int) ∧ decide (n ≤ k ∧ m ≤ K) = true) ∨ (n ≤ (k : Int) ∧ ¬ (m : Int) ≤ (K : Int) ∧ decide (n ≤ k ∧ m ≤ K) = false) := by
    by_cases h1 : n ≤ (k : Int)
    · by_cases h2 : m ≤ K
      · exact .inr (.inl ⟨h1, by omega, decide_eq_true ⟨h1, h2⟩⟩)
      · exact .inr (.inr ⟨h1, by omega, decide_eq_false (fun h => h2 h.2)⟩)
    · exact .inl ⟨h1, decide_eq_false (fun h => h1 h.1)⟩
  obtain ⟨b, hb⟩ : ∃ b, b = decide (n ≤ k ∧ m ≤ K) := ⟨_, rfl⟩
  rw [← hb] at hcase ⊢
  clear hmul hkk hb
  rcases hcase with ⟨h1, hf⟩ | ⟨h1, h2, hf⟩ | ⟨h1, h2, hf⟩
  all_goals
    replace hf := Lib.hid hf
    go_enter Tryd.func28, Tryd.ntmps28
    go_wp2_with fail
    go_ret
    exact ⟨retBool hf.out.symm, hB1⟩
/-- The call returns a graph with few edges, and turns the deck alone. -/
def RetSpo (w : World) (g : Nat) (n : Int) (m : Nat) (e : Ending) (w' : World) : Prop := ∃ (n' : Int) (es : List (Int × Int)) (A : Option Addr) (m' c : Nat), e = .returned (.agg #[.int .i64 n', .slice A m' c]) ∧ m' ≤ c ∧ RE w' A m' es ∧ m' ≤ m + 1 ∧ (n' = n ∨ n' ≤ 67) ∧ Fr w.heap.size A ∧ Dk w' g ∧ w.grownBy w' (some g)
theorem spo_ret {w wf : World} {g m m' c' : Nat} {n n' : Int} {A' : Option Addr} {es : List (Int × Int)} (hg0 : g < w.heap.size) (hD : Dk wf g) (hg : w.grownBy wf (some g)) (hE : RE wf A' m' es) (hF : Fr (w.heap.size + 2) A') (hm : m' ≤ m + 1) (hc : m' ≤ c') (hn : n' = n ∨ n' ≤ 67) :
    RetSpo w g n m (.returned (.agg #[.int .i64 n', .slice A' m' c'])) ((wf.setCell ⟨w.heap.size + 1, 0, none⟩ (.int .i64 n')).setCell ⟨w.heap.size + 1, 1, none⟩ (.slice A' m' c')) := by
  have hne : ∀ ad, A' = some ad → some ad.block ≠ some (w.heap.size + 1) := fun ad e h => by have := hF ad e; injection h with h; omega
  have hb : Below w.heap.size wf ((wf.setCell ⟨w.heap.size + 1, 0, none⟩ (.int .i64 n')).setCell ⟨w.heap.size + 1, 1, none⟩ (.slice A' m' c')) := ((Below.refl _ _).setCell (p := ⟨w.heap.size + 1, 0, none⟩) (by simp) _).setCell (p := ⟨w.heap.size + 1, 1, none⟩) (by simp) _
  exact ⟨n', es, A', m', c', rfl, hc, (hE.kept (grown_set (World.grownBy.refl _ _) _ _) hne).kept (grown_set (World.grownBy.refl _ _) _ _) hne, hm, hn, hF.mono (by omega), hD.below hb hg0, grown_set_new (grown_set_new hg (by simp) _) (by simp) _⟩
end Go.Proofs.YtknlmgcbdcepnaaDoor
