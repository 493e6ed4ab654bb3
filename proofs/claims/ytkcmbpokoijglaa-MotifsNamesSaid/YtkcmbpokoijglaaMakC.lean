/- What is made of numbers (cohesionmake): the deck. -/
import Derived.Test.YtkcmbpokoijglaaMem
import Derived.Test.YtkcmbpokoijglaaDek
import Derived.Test.YtkcmbpokoijglaaSetB
import Derived.Test.YtkcmbpokoijglaaGraB
import Derived.Deep.RegionLaw
set_option linter.unusedVariables false
namespace Go.Proofs.Ytkcmbpokoijglaa
open Go.RowKit

end Go.Proofs.Ytkcmbpokoijglaa

namespace Go.Proofs.Ytkcmbpokoijglaa
open Go.RowKit

/-- The call returns a new list with P, and turns the deck alone. -/
def RetD (w : World) (g : Nat) (P : List Int → Prop) (e : Ending) (w' : World) : Prop := ∃ (xs : List Int) (A : Option Addr) (n c : Nat), e = .returned (.slice A n c) ∧ n ≤ c ∧ P xs ∧ RI w' A n xs ∧ Fr w.heap.size A ∧ Dk w' g ∧ w.grownBy w' (some g)
theorem vld_more {xs : List Int} {m m' : Int} (h : Vld xs m) (hm : m ≤ m') : Vld xs m' := ⟨fun x hx => ⟨(h.1 x hx).1, Int.lt_of_lt_of_le (h.1 x hx).2 hm⟩, h.2⟩
theorem vld_push {xs : List Int} {m : Int} (h : Vld xs m) (hm : 0 ≤ m) : Vld (xs ++ [m]) (m + 1) := by
  refine ⟨?_, ?_⟩
  · intro x hx
    rcases List.mem_append.1 hx with hx | hx
    · have := h.1 x hx; omega
    · rw [List.mem_singleton.1 hx]; omega
  · rw [List.pairwise_append]
    refine ⟨h.2, List.pairwise_singleton _ _, ?_⟩
    intro a ha b hb
    rw [List.mem_singleton.1 hb]
    exact (h.1 a ha).2
theorem grown_of_new {w w' w2 : World} {g : Nat} {row : Option Nat} (h : w.grownBy w' (some g)) (h2 : w'.grownBy w2 row) (hr : ∀ k, row = some k → w.heap.size ≤ k) : w.grownBy w2 (some g) :=
  ⟨h2.os.trans h.os, h2.tape.trans h.tape, h2.output.trans h.output, Nat.le_trans h.size h2.size, fun k hk hne => (h2.block k (Nat.lt_of_lt_of_le hk h.size) (fun e => by have := hr _ e.symm; omega)).trans (h.block k hk hne)⟩

/-- The list has each number from 0 to n - 1 once. -/
def Ord (xs : List Int) (n : Nat) : Prop := xs.length = n ∧ xs.Nodup ∧ ∀ x ∈ xs, 0 ≤ x ∧ x < n
theorem ord_nil : Ord [] 0 := ⟨rfl, List.Pairwise.nil, by simp⟩
theorem ord_put {xs : List Int} {n i : Nat} (h : Ord xs n) (hi : i ≤ n) : Ord (xs.take i ++ [(n : Int)] ++ xs.drop i) (n + 1) := by
  obtain ⟨h1, h2, h3⟩ := h
  have hp : (xs.take i ++ [(n : Int)] ++ xs.drop i).Perm ((n : Int) :: xs) := by
    have h := List.perm_middle (a := (n : Int)) (l₁ := xs.take i) (l₂ := xs.drop i)
    rw [List.take_append_drop] at h
    simpa using h
  refine ⟨by rw [hp.length_eq]; simp [h1], ?_, ?_⟩
  · rw [hp.nodup_iff, List.nodup_cons]
    exact ⟨fun hm => by have := (h3 _ hm).2; omega, h2⟩
  · intro x hx
    rcases List.mem_cons.1 (hp.mem_iff.1 hx) with rfl | hx
    · omega
    · have := h3 x hx; omega
theorem OI.take {w : World} {B : Nat} {A : Option Addr} {n c k : Nat} {ys : List Int} (h : OI w B (.slice A n c) ys) (hn : n = ys.length) (hk : k ≤ n) : w.ownsRow B 3 1 (.slice A k c) k (ints (ys.take k)) := by
  refine ⟨by rw [ints_length, List.length_take]; omega, ?_⟩
  rcases h.2 with ⟨hv, h0⟩ | ⟨g, cap, cur, hv, h1, h2, h3, h4, h5, h6⟩
  · injection hv with e1 e2 e3
    subst e1; subst e3
    exact .inl ⟨by rw [show k = 0 by omega], by omega⟩
  · injection hv with e1 e2 e3
    subst e1; subst e3
    refine .inr ⟨g, c, cur, rfl, h1, h2, by omega, h4, h5, ?_⟩
    rw [ints_take, ← h6, List.take_take, Nat.mul_one, Nat.min_eq_left (by omega)]
theorem own_one {w : World} {B : Nat} (x : Int) (hB : B ≤ w.heap.size) : (w.alloc (.cells #[.int .i64 x] 3)).ownsRow B 3 1 (.slice (some ⟨w.heap.size, 0, none⟩) 1 1) 1 (ints [x]) :=
  World.ownsRow_lit w #[.int .i64 x] 1 hB (by unfold maxLen; omega) rfl

set_option maxRecDepth 100000 in
set_option maxHeartbeats 2000000 in
theorem mkorder_any (g : Nat) (n : Nat) (w : World) (h : Dk w g) (hn : n ≤ 1000000) :
    Calls Try.prog 17 #[.pointer (some ⟨g, 0, none⟩), .int .i64 n] w (RetD w g (fun xs => Ord xs n)) := by
  have hg0 := h.lt
  obtain ⟨i0, hi0, hz0, hz1, hz2⟩ := info_parts int_info
  go_enter Try.func17, Try.ntmps17
  go_wp2
  go_loopw [5, 6] (fun v i wr => ∃ (k : Nat) (xs : List Int), k ≤ n ∧ i = .int .i64 k ∧ Hid (Ord xs k) ∧ OI wr w.heap.size v xs ∧ Dk wr g ∧ w.grownBy wr (some g)) (fun _ i _ => n - (intOf i).toNat)
  case atStart => exact ⟨0, [], Nat.zero_le _, rfl, Lib.hid ord_nil, OI.nil_, h, World.grownBy.refl _ _⟩
  case round =>
    obtain ⟨k, xs, hk, rfl, hv, ho, hd, hg⟩ := hrel
    have hs := hg.size
    by_cases hlt : k < n
    · go_wp2_with fail
      refine (next_any g (k + 1) _ hd (by omega)).mono ?_
      rintro e w1 ⟨x, rfl, x0, x1, _, hd1, hg1⟩
      replace x1 := x1 (by omega)
      have hs1 := hg1.size
      have hg2 := grown_trans hg hg1
      replace ho := ho.kept hg1 (by
        right; intro e; have := (ho.block_lt _ e).1; omega)
      clear hg1 hd hg
      obtain ⟨i, rfl⟩ := Int.eq_ofNat_of_zero_le x0
      obtain ⟨A, m, c, rfl, hm, hc, hcm, hr⟩ := ho.form
      have hmk : m ≤ k ∧ k ≤ m := by have := hv.out.1; omega
      have htake := Lib.hid (ho.take (k := i) hm (by omega))
      have hfr := ho.fresh hm
      have hblk := ho.block_lt
      have hlen := Lib.hid hm
      clear hm
      have i1 : (i : Int) ≤ (m : Int) := by omega
      have i2 : (m : Int) ≤ (c : Int) := by omega
      have i3 : (i : Int) ≤ (c : Int) := by omega
      have hic : i ≤ m := by omega
      go_wp2_with fail
      have hO := (own_one (w := w1) (k : Int) (Nat.le_refl w1.heap.size)).drew
      have hR := RI.cut ((hr.alloc (.cells #[.int .i64 k] 3)).drew) hic hc
      have hone := ints_one (xs.drop i)
      have tok1 : True := trivial
      go_region_held3 (fun _ => True) (trivial) ((first | (have _t := tok1; refine step_append_any (w1.alloc (.cells #[.int .i64 k] 3)).drew (by rfl) (.tmp 21) (.tmp 24) 22 (by rfl) w1.heap.size 3 i0 _ 1 8 Try.underlying22 hi0 hz0 hz1 hz2 rfl (by omega) (.slice (some ⟨w1.heap.size, 0, none⟩) 1 1) 1 (ints [(k : Int)]) (by rfl) hO _ _ (m - i) (c - i) (ints (xs.drop i)) (by rfl) hR hone (by unfold maxLen; omega) (by omega) (by simp) ?_; intro v2 w2 hown2 hg3 hat3; clear tok1 _t; have hb2 : Below w1.heap.size w1 w2 := below_own (((Below.refl _ _).alloc (Nat.le_refl _) _).drew) hg3 (by simp) (own_block hO); obtain ⟨A2, c2, rfl, hc2, hcm2⟩ := own_form hown2; have hR2 := Reads.of_own hown2; have ho2 := World.ownsRow.kept htake.out (row := none) (w' := w2) ⟨hb2.os, hb2.tape, hb2.output, hb2.size, fun q hq _ => hb2.block q hq⟩ (by simp [Value.ownBlock]; cases A <;> simp)) | (refine step_append_any w2 (by rfl) (.tmp 19) (.tmp 25) 22 (by rfl) w.heap.size 3 i0 _ 1 8 Try.underlying22 hi0 hz0 hz1 hz2 rfl (by omega) (.slice A i c) i (ints (xs.take i)) (by rfl) ho2 _ A2 (1 + (m - i)) c2 (ints [(k : Int)] ++ ints (xs.drop i)) (by rfl) hR2 (by rw [← ints_append]; exact ints_one _) (by unfold maxLen; omega) (by omega) (by have := hb2.size; omega) ?_; intro v3 w3 hown3 hg4 hat4)))
      have hs3 := hg4.size
      have hs2 := hb2.size
      have ho3 : OI w3 w.heap.size v3 (xs.take i ++ [(k : Int)] ++ xs.drop i) := by
        unfold OI
        have hl : (xs.take i ++ [(k : Int)] ++ xs.drop i).length = i + (1 + (m - i)) := by
          have := hlen.out
          simp; omega
        rw [hl, ints_append, ints_append, List.append_assoc]; exact hown3
      have hv3 := Lib.hid (ord_put hv.out (i := i) (by omega))
      have hd3 : Dk w3 g := (hd1.below hb2 (by omega)).grown hg4 (fun q hq => by have := (own_block ho2 q hq); omega)
      have hgf : w.grownBy w3 (some g) := grown_of_new (grown_below hg2 hb2 (by omega)) hg4 (fun q hq => own_block ho2 q hq)
      clear hown2 hown3 hg3 hg4 hO hR hR2 ho2 hb2 hd1 hg2 hr ho
      go_wp2
      all_goals go_roundw
      case rel => exact ⟨k + 1, _, by omega, by go_num, hv3, ho3, hd3, hgf⟩
      case measure => simp [intOf]; omega
    · have hfin : RetD w g (fun xs => Ord xs n) (.returned u5) wr := by
        obtain ⟨A, m, c, rfl, hm, hc, _, hr⟩ := ho.form
        exact ⟨xs, A, m, c, rfl, hc, by rw [show n = k by omega]; exact hv.out, hr, ho.fresh hm, hd, hg⟩
      replace hfin := Lib.hid hfin
      clear ho hd hg
      go_wp2
      go_ret
      exact hfin.out
end Go.Proofs.Ytkcmbpokoijglaa

namespace Go.Proofs.Ytkcmbpokoijglaa
open Go.RowKit

/-- The edges are those of a graph with n nodes, in order. -/
def Srt (n : Int) (es : List (Int × Int)) : Prop := (∀ e ∈ es, 0 ≤ e.1 ∧ e.1 < e.2 ∧ e.2 < n) ∧ es.Pairwise ltE
theorem chkE_ok {n : Int} {es : List (Int × Int)} : ∀ p : Option (Int × Int), (∀ e ∈ es, 0 ≤ e.1 ∧ e.1 < e.2 ∧ e.2 < n) → es.Pairwise ltE → (∀ q, p = some q → ∀ e ∈ es, ltE q e) → chkE n p es = 0 := by
  induction es with
  | nil => intro p _ _ _; cases p <;> rfl
  | cons e es ih =>
    intro p h1 h2 h3
    have he := h1 e (by simp)
    have h2' := List.pairwise_cons.1 h2
    have ih' := ih (some e) (fun x hx => h1 x (by simp [hx])) h2'.2 (fun q hq x hx => by injection hq with hq; subst hq; exact h2'.1 x hx)
    simp only [chkE]
    rw [if_neg (by omega), ih']
    rw [if_neg]
    cases p with
    | none => simp
    | some q =>
      have := h3 q rfl e (by simp)
      simp [this]
theorem chk_of_srt {n : Int} {es : List (Int × Int)} (h : Srt n es) (h0 : 0 ≤ n) (h1 : n ≤ 64) : chkG n es = 0 := by
  rw [chkG, if_neg (by omega)]
  exact chkE_ok none h.1 h.2 (fun q hq => by cases hq)
theorem srt_push {n u v : Int} {es : List (Int × Int)} (h : Srt n es) (hb : ∀ e ∈ es, ltE e (u, v)) (h0 : 0 ≤ u) (h1 : u < v) (h2 : v < n) : Srt n (es ++ [(u, v)]) := by
  refine ⟨?_, ?_⟩
  · intro e he
    rcases List.mem_append.1 he with he | he
    · exact h.1 e he
    · rw [List.mem_singleton.1 he]; exact ⟨h0, h1, h2⟩
  · rw [List.pairwise_append]
    refine ⟨h.2, List.pairwise_singleton _ _, fun a ha b hb' => ?_⟩
    rw [List.mem_singleton.1 hb']
    exact hb a ha
theorem lt_next {u v : Int} {es : List (Int × Int)} (h : ∀ e ∈ es, ltE e (u, v)) : ∀ e ∈ es ++ [(u, v)], ltE e (u, v + 1) := by
  intro e he
  rcases List.mem_append.1 he with he | he
  · have := h e he; unfold ltE at this ⊢; simp at this ⊢; omega
  · rw [List.mem_singleton.1 he]; unfold ltE; simp; omega
theorem lt_skip {u v : Int} {es : List (Int × Int)} (h : ∀ e ∈ es, ltE e (u, v)) : ∀ e ∈ es, ltE e (u, v + 1) := by
  intro e he
  have := h e he; unfold ltE at this ⊢; simp at this ⊢; omega
theorem lt_row {n u v : Int} {es : List (Int × Int)} (hs : Srt n es) (h : ∀ e ∈ es, ltE e (u, v)) (hv : n ≤ v) : ∀ e ∈ es, ltE e (u + 1, u + 1 + 1) := by
  intro e he
  have := h e he; unfold ltE at this ⊢; simp at this ⊢; omega
theorem grown_set_new {w w' : World} {row : Option Nat} (h : w.grownBy w' row) {p : Addr} (hp : w.heap.size ≤ p.block) (u : Value) : w.grownBy (w'.setCell p u) row :=
  ⟨h.os, h.tape, h.output, by simpa [World.setCell] using h.size, fun k hk hne => (Below.heap_setCell w' p u k (by omega)).trans (h.block k hk hne)⟩
theorem _root_.Go.World.grownBy.block_cell {w w' : World} {row : Option Nat} (h : w.grownBy w' row) (p : Addr) (hp : p.block < w.heap.size) (hne : some p.block ≠ row) : w'.cell? p = w.cell? p := World.cell?_of_block (h.block p.block hp hne)
theorem grown_alloc {w w' : World} {row : Option Nat} (h : w.grownBy w' row) (o : Obj) : w.grownBy (w'.alloc o) row :=
  ⟨h.os, h.tape, h.output, Nat.le_trans h.size (by simp), fun k hk hne => (Below.heap_alloc w' o k (Nat.lt_of_lt_of_le hk h.size)).trans (h.block k hk hne)⟩
/-- The call returns a new graph of at most 'most' nodes, and turns the deck alone. -/
def RetGph (w : World) (g : Nat) (most : Nat) (e : Ending) (w' : World) : Prop := ∃ (n : Nat) (es : List (Int × Int)) (A : Option Addr) (m c : Nat), e = .returned (.agg #[.int .i64 n, .slice A m c]) ∧ m ≤ c ∧ RE w' A m es ∧ Fr w.heap.size A ∧ Srt n es ∧ n ≤ most ∧ Dk w' g ∧ w.grownBy w' (some g)

end Go.Proofs.Ytkcmbpokoijglaa
