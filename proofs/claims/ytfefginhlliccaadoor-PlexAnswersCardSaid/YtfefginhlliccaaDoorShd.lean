/- A fenced region whose first operations only read, in whatever order; what follows goes on from there. -/
import Derived.StillTail
import Derived.StillTactics
import Derived.OrdersIn
import Derived.TacticsIn
import Derived.ControlIn
import Derived.Test.YtfefginhlliccaaDoorRows
set_option linter.unusedVariables false
set_option linter.unusedSimpArgs false
namespace Go.Proofs.YtfefginhlliccaaDoor.Sh

section
variable {P : Program} {ops : Array Oper} {md : Region.Mode} {w : World}
/-- No operation behind the head may come up while one of the head has not. -/
def After (md : Region.Mode) (ops : Array Oper) (n : Nat) : Prop := ∀ listed, HeadInv md ops n listed → ∀ i, i < n → listed.getD i true = false → ∀ t, n ≤ t → t ∉ Region.ready md ops listed
def sinkP (md : Region.Mode) (ops : Array Oper) (n : Nat) : Bool := (List.range n).all fun i => decide (i + 1 = n) || (List.range n).any fun j => decide (i < j) && Region.waitsFor md ops j i
def restP (md : Region.Mode) (ops : Array Oper) (n : Nat) : Bool := (List.range ops.size).all fun t => decide (t < n) || (Region.waitsFor md ops t (n - 1) || (List.range t).any fun i => decide (n ≤ i) && Region.waitsFor md ops t i)
theorem after_of {n : Nat} (hs : sinkP md ops n = true) (hr : restP md ops n = true) : After md ops n := by
  intro listed inv i hi hun t ht hready
  have hlast : ∀ d i, n - i = d → i < n → listed.getD i true = false → listed.getD (n - 1) false = false := by
    intro d
    induction d using Nat.strongRecOn with
    | _ d ih =>
      intro i hd hi hun
      have h1 := List.all_eq_true.1 hs i (List.mem_range.2 hi)
      rw [Bool.or_eq_true, decide_eq_true_eq] at h1
      rcases h1 with h1 | h1
      · rw [show n - 1 = i by omega]; exact getD_both hun
      · obtain ⟨j, hj, h2⟩ := List.any_eq_true.1 h1
        rw [Bool.and_eq_true, decide_eq_true_eq] at h2
        obtain ⟨oj, hoj, e, he, hb, hon⟩ := Region.waitsFor_spec h2.2
        have hjn := List.mem_range.1 hj
        have hjs : j < listed.size := by rw [inv.size]; exact (Array.getElem?_eq_some_iff.1 hoj).1
        cases hl : listed.getD j false with
        | true =>
          have := inv.closed j oj hoj hl e he hb
          rw [hon, getD_both hun] at this
          cases this
        | false => exact ih (n - j) (by omega) j rfl hjn (getD_in hjs hl)
  have h0 := hlast _ i rfl hi hun
  obtain ⟨_, ot, hot, hall⟩ := mem_ready.1 hready
  have htl : t < ops.size := (Array.getElem?_eq_some_iff.1 hot).1
  have h1 := List.all_eq_true.1 hr t (List.mem_range.2 htl)
  rw [Bool.or_eq_true, decide_eq_true_eq, Bool.or_eq_true] at h1
  rcases h1 with h1 | h1 | h1
  · omega
  · obtain ⟨o', ho', e, he, hb, hon⟩ := Region.waitsFor_spec h1
    obtain rfl : o' = ot := Option.some.inj (ho'.symm.trans hot)
    have := hall e he hb
    rw [hon, h0] at this; cases this
  · obtain ⟨k, hk, h2⟩ := List.any_eq_true.1 h1
    rw [Bool.and_eq_true, decide_eq_true_eq] at h2
    obtain ⟨o', ho', e, he, hb, hon⟩ := Region.waitsFor_spec h2.2
    obtain rfl : o' = ot := Option.some.inj (ho'.symm.trans hot)
    have := hall e he hb
    have hkt := List.mem_range.1 hk
    rw [hon, getD_both (inv.tail k h2.1 (by omega))] at this; cases this

/-- An operation of the head is taken first. -/
theorem head_first {n i : Nat} {oi : Oper} {v : Value} {L : Array Bool → Act → Prop} (hi : ops[i]? = some oi) (hsel : ∀ (j : Nat) (o : Oper) cs b, ops[j]? = some o → o.op ≠ .select cs b)
    (hA : After md ops n) (hin : i < n) (hdone : ∀ listed a, L listed a → ∀ j ∈ Region.ready md ops listed, n ≤ j) :
    ∀ (f : Nat) (listed : Array Bool) (a : Act), HeadInv md ops n listed →
      (∀ j oj, ops[j]? = some oj → j ≠ i → listed.getD j true = false → (∀ e ∈ oj.after, Region.binds md e = true → e.on ≠ i) → oi.apart ops oj = true) →
      i ∈ Region.ready md ops listed → YieldsAt P ops w oi v a →
      wpAnyL P md ops w n L f (listed.setIfInBounds i true) (a.put oi.dst v) → wpAnyL P md ops w n L (f + 1) listed a := by
  intro f
  induction f with
  | zero =>
    intro listed a inv hfree hr hy H
    have hun := (mem_ready.1 hr).1
    refine ⟨fun h => (by rw [h] at hr; cases hr), fun j hj => ?_⟩
    have hjn : j < n := Nat.lt_of_not_le fun h => hA listed inv i hin hun j h hj
    by_cases hji : j = i
    · subst hji; exact ⟨hjn, hy.stOp hi H⟩
    · have := hdone _ _ H j (ready_mono hj hji); omega
  | succ f ih =>
    intro listed a inv hfree hr hy H
    have hun := (mem_ready.1 hr).1
    refine ⟨fun h => (by rw [h] at hr; cases hr), fun j hj => ?_⟩
    have hjn : j < n := Nat.lt_of_not_le fun h => hA listed inv i hin hun j h hj
    by_cases hji : j = i
    · subst hji; exact ⟨hjn, hy.stOp hi H⟩
    · refine ⟨hjn, ?_⟩
      obtain ⟨hjun, oj, hoj, hall⟩ := mem_ready.1 hj
      have hno : ∀ e ∈ oj.after, Region.binds md e = true → e.on ≠ i := fun e he hb heq => by
        have := hall e he hb
        rw [heq, getD_both hun] at this
        cases this
      have h2 := stOp_put hoj (hfree j oj hoj hji hjun hno) (fun cs b => hsel i oi cs b hi) (fun cs b => hsel j oj cs b hoj) hy (H.2 j (ready_mono hj hji)).2
      refine stOp_mono (fun a' h3 => ih (listed.setIfInBounds j true) a' (inv.set hj hjn) (fun k ok hk hki hun hnk => hfree k ok hk hki ?_ hnk) (ready_mono hr (Ne.symm hji)) h3.1 ?_) h2
      · by_cases hjk : j = k
        · subst hjk; exact hjun
        · rw [getD_set_ne true hjk] at hun; exact hun
      · rw [Array.setIfInBounds_comm _ _ hji]; exact h3.2
/-- The marks when k, k + 1, .. have come. -/
def setAll : Nat → Nat → Array Bool → Array Bool
  | 0, _, l => l
  | f + 1, k, l => setAll f (k + 1) (l.setIfInBounds k true)
def lexP (md : Region.Mode) (ops : Array Oper) : Nat → Nat → Array Bool → Bool
  | 0, _, _ => true
  | f + 1, k, l => (Region.ready md ops l).contains k && Region.free md ops l k && lexP md ops f (k + 1) (l.setIfInBounds k true)
theorem head_lex {n : Nat} {FIN : Array Bool} {Lq : Act → Prop} (hsel : Region.noSelect ops = true) (hA : After md ops n) (hdone : ∀ j ∈ Region.ready md ops FIN, n ≤ j) :
    ∀ (l : List Oper) (k : Nat) (listed : Array Bool) (a : Act), (∀ j, j < l.length → l[j]? = ops[k + j]?) → k + l.length = n → HeadInv md ops n listed → lexP md ops l.length k listed = true → setAll l.length k listed = FIN → wpStill P ops w Lq l a →
      wpAnyL P md ops w n (fun listed' a' => listed' = FIN ∧ Lq a') l.length listed a
  | [], k, listed, a, _, _, _, _, hF, h => ⟨hF, h⟩
  | o :: l, k, listed, a, hl, hk, inv, hB, hF, h => by
    have h0 : ops[k]? = some o := by simpa using (hl 0 (by simp)).symm
    simp only [List.length_cons, lexP, Bool.and_eq_true] at hB
    obtain ⟨⟨hr, hf⟩, hB'⟩ := hB
    simp only [List.length_cons] at hk
    have hkn : k < n := by omega
    have hr' : k ∈ Region.ready md ops listed := by simpa using hr
    have hst : stOp P ops w k (wpStill P ops w Lq l) a := by unfold stOp; simp only [h0]; exact h
    obtain ⟨v, hy, hK⟩ := yieldsAt_of_stOp h0 hst
    refine head_first h0 (Region.noSelect_spec hsel) hA hkn (fun listed' a' hL => by obtain ⟨rfl, _⟩ := hL; exact hdone) l.length listed a inv (Region.free_spec h0 hf) hr' hy ?_
    exact head_lex hsel hA hdone l (k + 1) _ _ (fun j hj => by have := hl (j + 1) (by simp; omega); simpa [Nat.add_assoc, Nat.add_comm 1 j] using this) (by omega) (inv.set hr' hkn) hB' hF hK

theorem wpIn_of_still {m : Nat} {o : Oper} {a : Act} {K : Act → Prop} {K' : Act → World → Prop} {Q' : Exit → Act → World → Prop} (h : ∀ a, K a → K' a w) (hh : o.still P a w K) : o.wpIn Fence.wide m P a w K' Q' := by
  unfold Oper.still at hh
  unfold Oper.wpIn
  refine ⟨fun _ _ => trivial, ?_⟩
  show o.uponIn Fence.wide m P a K' Q' ((execOp a.eval o).run P w)
  generalize (execOp a.eval o).run P w = r at *
  cases r with
  | ok n w' =>
    cases n <;> simp only [Oper.stillUpon] at hh <;> simp only [Oper.uponIn]
    case enter f args =>
      obtain ⟨rfl, v, hc, hn⟩ := hh
      refine ⟨fun h => (by cases h), callsIn_wide.2 (hc.mono fun e w'' he => ?_)⟩
      obtain ⟨rfl, rfl⟩ := he
      exact h _ hn
    all_goals (obtain ⟨rfl, h2⟩ := hh; exact h _ h2)
  | halt x w' => simp only [Oper.stillUpon] at hh
theorem anyIn_of_head {n g m : Nat} {L : Array Bool → Act → Prop} {Q' : Exit → Act → World → Prop} (hL : ∀ listed a, L listed a → wpAnyIn Fence.wide m P md ops Q' g listed a w) :
    ∀ (f : Nat) (listed : Array Bool) (a : Act), wpAnyL P md ops w n L f listed a → wpAnyIn Fence.wide m P md ops Q' (f + g) listed a w
  | 0, listed, a, h => by rw [Nat.zero_add]; exact hL _ _ h
  | f + 1, listed, a, h => by
    rw [show f + 1 + g = (f + g) + 1 by omega]
    refine ⟨fun h0 => absurd h0 h.1, fun i hi => ?_⟩
    have hst := (h.2 i hi).2
    unfold stOp at hst
    unfold wpOpIn
    split
    · rename_i ho; simp only [ho] at hst; exact anyIn_of_head hL f _ _ hst
    · rename_i o ho
      simp only [ho] at hst
      split
      · rename_i hw; simp only [hw, if_true] at hst; exact wpIn_of_still (fun a' h' => anyIn_of_head hL f _ a' h') hst
      · rename_i hw; simp only [hw] at hst; exact ⟨fun _ _ => trivial, anyIn_of_head hL f _ _ hst⟩
/-- The operations of a chain, in the text's order. -/
theorem anyIn_of_seq {m : Nat} {Q' : Exit → Act → World → Prop} : ∀ (l : List Oper) (k : Nat) (listed : Array Bool) (a : Act) (w : World), (∀ j, l[j]? = ops[k + j]?) →
    Region.seqB md ops l.length k listed = true → wpListIn Fence.wide m P ops Q' l a w → wpAnyIn Fence.wide m P md ops Q' l.length listed a w
  | [], _, _, _, _, _, hB, h => ⟨by simpa [Region.seqB] using hB, h⟩
  | o :: l, k, listed, a, w, hl, hB, h => by
    have h0 : ops[k]? = some o := by simpa using (hl 0).symm
    simp only [List.length_cons, Region.seqB, Bool.and_eq_true, decide_eq_true_eq] at hB
    refine ⟨fun h1 => (by rw [hB.1] at h1; cases h1), fun i hi => ?_⟩
    rw [hB.1, List.mem_singleton] at hi
    subst hi
    have hw : wpOpIn Fence.wide m P ops Q' i (wpListIn Fence.wide m P ops Q' l) a w := by unfold wpOpIn; simp only [h0]; exact h
    exact wpOpIn_mono (fun a' w' h' => anyIn_of_seq l (i + 1) _ a' w' (fun j => by have := hl (j + 1); simpa [Nat.add_assoc, Nat.add_comm 1 j] using this) hB.2 h') hw
theorem wpStill_imp {Q Q' : Act → Prop} (h : ∀ a, Q a → Q' a) : ∀ (l : List Oper) (a : Act), wpStill P ops w Q l a → wpStill P ops w Q' l a
  | [], a, hh => h a hh
  | o :: l, a, hh => by
    unfold wpStill at hh ⊢
    split
    · rename_i hw; rw [if_pos hw] at hh; exact Oper.still_mono (fun a' => wpStill_imp h l a') hh
    · rename_i hw; rw [if_neg hw] at hh; exact wpStill_imp h l _ hh
/-- The region's shape: a head of n operations that only read. -/
def headP (md : Region.Mode) (ops : Array Oper) (n : Nat) : Bool :=
  Region.noSelect ops && decide (n < ops.size) && sinkP md ops n && restP md ops n && lexP md ops n 0 (Array.replicate ops.size false) && (Region.ready md ops (setAll n 0 (Array.replicate ops.size false))).all fun j => decide (n ≤ j)
theorem region_head {id m : Nat} {Q : Exit → Act → World → Prop} {a : Act} {w : World} {l : List Oper} (n : Nat) (hm : P.follows .mixedOrders = true) (hB : headP .any l.toArray n = true)
    (h : wpStill P l.toArray w.drew (fun a' => wpAnyIn Fence.wide m P .any l.toArray Q (l.length - n) (setAll n 0 (Array.replicate l.length false)) a' w.drew) (l.take n) a) : (Code.region id l.toArray true).wpIn Fence.wide m P Q a w := by
  simp only [headP, Bool.and_eq_true, decide_eq_true_eq] at hB
  obtain ⟨⟨⟨⟨⟨hsel, hn⟩, hs⟩, hr⟩, hlex⟩, hd⟩ := hB
  have hn' : n < l.length := by simpa using hn
  have htl : (l.take n).length = n := by simp; omega
  have inv0 : HeadInv .any l.toArray n (Array.replicate l.toArray.size false) :=
    ⟨by simp, fun j oj _ hl => (by rw [getD_replicate_false] at hl; cases hl), fun t _ ht => getD_in (by simpa using ht) (getD_replicate_false _ _)⟩
  have H := head_lex (P := P) (w := w.drew) hsel (after_of hs hr) (fun j hj => by have := List.all_eq_true.1 hd j hj; simpa using this) (l.take n) 0 (Array.replicate l.toArray.size false) a (fun j hj => by
    have hj' : j < n := by rw [htl] at hj; exact hj
    simp [hj']) (by rw [htl]; omega) inv0 (by rw [htl]; exact hlex) (by rw [htl]) h
  refine wpIn_region_any hm ?_
  have := anyIn_of_head (Q' := Q) (m := m) (g := l.length - n) (fun listed a' hL => by
    obtain ⟨rfl, hL⟩ := hL
    have e : (Array.replicate l.toArray.size false) = Array.replicate l.length false := by simp
    rw [e]; exact hL) _ _ _ H
  rw [htl, show n + (l.length - n) = l.toArray.size by simp; omega] at this
  exact this
/-- .. behind the head a free operation that reads nothing, and then a chain. -/
theorem region_head_move {id m : Nat} {Q : Exit → Act → World → Prop} {a : Act} {w : World} {l : List Oper} {o : Oper} (n : Nat) (hm : P.follows .mixedOrders = true) (hB : headP .any l.toArray n = true) (ho : l[n]? = some o)
    (hf : Region.free .any l.toArray (setAll n 0 (Array.replicate l.length false)) n = true) (hr : (Region.ready .any l.toArray (setAll n 0 (Array.replicate l.length false))).contains n = true)
    (hs : Region.seqB .any l.toArray (l.length - (n + 1)) (n + 1) ((setAll n 0 (Array.replicate l.length false)).setIfInBounds n true) = true)
    (h : wpStill P l.toArray w.drew (fun a' => ∃ v, (∀ c a w, Q (.panic c) (a.put o.dst v) w → Q (.panic c) a w) ∧ YieldsFenced P l.toArray o v a' ∧ wpListIn Fence.wide m P l.toArray Q (l.drop (n + 1)) (a'.put o.dst v) w.drew) (l.take n) a) :
    (Code.region id l.toArray true).wpIn Fence.wide m P Q a w := by
  have hB' := hB
  simp only [headP, Bool.and_eq_true, decide_eq_true_eq] at hB'
  obtain ⟨⟨⟨⟨⟨hsel, hn⟩, _⟩, _⟩, _⟩, _⟩ := hB'
  have hn' : n < l.length := by simpa using hn
  refine region_head n hm hB (wpStill_imp (fun a' ⟨v, hQ, hy, hl⟩ => ?_) _ _ h)
  rw [show l.length - n = (l.length - (n + 1)) + 1 by omega]
  refine wpAnyIn_take (i := n) (v := v) rfl (by simpa using ho) hsel hf hr hQ hy ?_
  have hdl : (l.drop (n + 1)).length = l.length - (n + 1) := by simp
  have := anyIn_of_seq (md := .any) (ops := l.toArray) (Q' := Q) (l.drop (n + 1)) (n + 1) ((setAll n 0 (Array.replicate l.length false)).setIfInBounds n true) _ w.drew (fun j => by simp [List.getElem?_drop]) (by rw [hdl]; exact hs) hl
  rw [hdl] at this
  exact this
end
end Go.Proofs.YtfefginhlliccaaDoor.Sh
