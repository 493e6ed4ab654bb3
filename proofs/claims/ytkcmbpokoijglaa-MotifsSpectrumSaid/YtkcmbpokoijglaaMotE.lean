/- append to a row of the call's own: what was read before is read still. -/
import Derived.Test.YtkcmbpokoijglaaMotD
set_option linter.unusedVariables false
set_option linter.unusedSimpArgs false
namespace Go.Proofs.Ytkcmbpokoijglaa
open Go.RowKit CoMot
variable {α : Type}

section
variable {E : El α} {st t : TypeId} {bytes : Nat}
/-- append of what a slice reads: the new row, and the old one as it was. -/
theorem run_append_keep (T : Ty E st t bytes) (w : World) (ty : TypeId) {B : Nat} {v : Value} {xs zs : List α} {A : Option Addr} {m c : Nat} (hown : OS E t w B v xs) (hr : RS E w A m zs) (hm : xs.length + m ≤ maxLen) (hn : (xs.length + m) * bytes ≤ 140737488355328) (hB : B ≤ w.heap.size) :
    ∃ v' w', (Builtin.append_ #[st, st] ty #[v, .slice A m c]).run Try.prog w = .ok v' w' ∧ OS E t w' B v' (xs ++ zs) ∧ OS E t w' B v xs ∧ w.grownBy w' v.ownBlock ∧ (v'.ownBlock = v.ownBlock ∨ v'.ownBlock = some w.heap.size) := by
  obtain ⟨z, hi, hzs⟩ := T.info
  obtain ⟨i0, hi0, hz0, hz1, hz2⟩ := info_parts hi
  obtain ⟨v', w', h1, h2, h3, h4⟩ := run_append_any (P := Try.prog) w B st ty t i0 _ E.size bytes T.und hi0 hz0 hz1 hz2 hzs E.pos v xs.length (E.all xs) hown w.heap.size A m c (E.all zs) hr (E.all_one _) hm hn hB
  refine ⟨v', w', h1, ?_, ?_, h3, h4⟩
  · unfold OS; rw [List.length_append, E.all_append, hr.len]; exact h2
  · rcases hown.2 with ⟨rfl, h0⟩ | ⟨g, cap, cur, rfl, hbg, hg, hnc, hcm, hcs, htake⟩
    · exact ⟨hown.1, .inl ⟨rfl, h0⟩⟩
    · rcases A with _ | ad
      · have hm0 : m = 0 := by
          rcases Nat.eq_zero_or_pos m with h0 | h0
          · exact h0
          · obtain ⟨ad, h, _⟩ := hr.2 h0; cases h
        subst hm0
        rw [run_append_of_nil (P := Try.prog) w B st ty t i0 E.size T.und hi0 _ xs.length (E.all xs) hown c] at h1
        injection h1 with _ h1
        subst h1
        exact hown
      · have hcells : ∀ j u, (E.all zs)[j]? = some u → w.cell? (ad.add j) = some u := by
          intro j u hu
          rcases Nat.eq_zero_or_pos m with h0 | h0
          · have := hr.1
            rw [h0, Nat.zero_mul] at this
            rw [List.eq_nil_of_length_eq_zero this] at hu
            simp at hu
          · obtain ⟨ad', h, _, hc⟩ := hr.2 h0
            have h' : ad = ad' := Option.some.inj h
            rw [h']
            exact hc j u hu
        by_cases hroom : xs.length + m ≤ cap
        · have hfit : xs.length * i0.size + (E.all zs).length ≤ cur.size := by rw [hz1, hr.1, hcs, ← Nat.add_mul]; exact Nat.mul_le_mul_right _ hroom
          rw [run_append_room (P := Try.prog) w st ty t i0 T.und hi0 g xs.length cap cur hg ad m c (E.all zs) (by rw [hz1]; exact hr.1) hcells (E.all_one _) hroom hfit] at h1
          injection h1 with _ h1
          subst h1
          refine ⟨hown.1, .inr ⟨g, cap, _, rfl, hbg, setRow_heap w g cur _ t _ hg, hnc, hcm, ?_, ?_⟩⟩
          · simp only [List.size_toArray, List.length_append, List.length_take, List.length_drop, Array.length_toList]
            omega
          · have hlen : (cur.toList.take (xs.length * i0.size)).length = xs.length * E.size := by
              rw [hz1, htake]; exact hown.1
            show ((_ : List Value).toArray.toList).take (xs.length * E.size) = _
            rw [List.append_assoc]
            simp only [List.toList_toArray]
            rw [← hlen, List.take_left, hz1, htake]
        · have holds : ∀ j u, (E.all xs)[j]? = some u → w.cell? ((⟨g, 0, none⟩ : Addr).add j) = some u := World.ownsRow.cells hown (g := g) rfl
          have hsm : xs.length + m ≤ 9223372036854775807 := by simp only [maxLen] at hm; omega
          rw [run_append_grow (P := Try.prog) w st ty t i0 _ T.und hi0 hz0 ⟨g, 0, none⟩ xs.length cap (E.all xs) (by rw [hz1]; exact hown.1) holds ad m c (E.all zs) (by rw [hz1]; exact hr.1) hcells (by omega) (by omega) (growslice_fits (by omega) (by rw [hz2]; exact hn))] at h1
          injection h1 with _ h1
          subst h1
          exact OS.alloc (E := E) (w := w.drew) hown _
theorem wp_append_keep (T : Ty E st t bytes) {o : Oper} {a : Act} {K : Act → World → Prop} {Q : Exit → Act → World → Prop} {w : World} {B : Nat} {v : Value} {xs zs : List α} {A : Option Addr} {m c : Nat}
    (s x : Operand) (ho : o.op = .call { callee := .builtin .append, args := #[s, x], argTypes := #[st, st] })
    (hs : a.eval s = v) (hx : a.eval x = .slice A m c) (hown : OS E t w B v xs) (hr : RS E w A m zs) (hm : xs.length + m ≤ maxLen) (hn : (xs.length + m) * bytes ≤ 140737488355328) (hB : B ≤ w.heap.size)
    (h : ∀ v' w', OS E t w' B v' (xs ++ zs) → OS E t w' B v xs → w.grownBy w' v.ownBlock → (v'.ownBlock = v.ownBlock ∨ v'.ownBlock = some w.heap.size) → K (a.put o.dst v') w') : o.wp Try.prog a w K Q := by
  obtain ⟨v', w', hrun, h2, h3, h4, h5⟩ := run_append_keep T w o.type (c := c) hown hr hm hn hB
  unfold Oper.wp execOp
  simp only [ho, resolve, invoke, builtin, Sem.run_bind, Sem.run_pure, Result.andThen_ok, List.map_toArray, List.map_cons, List.map_nil, hs, hx, hrun]
  exact h v' w' h2 h3 h4 h5
/-- In a region that draws: append of one element that was laid in a new block. -/
theorem step_push_keep (T : Ty E st t bytes) {ops : Array Oper} {o : Oper} {a : Act} {K : Act → World → Prop} {Q : Exit → Act → World → Prop} {F : Prop} {w : World} {B H : Nat} {v : Value} {xs : List α} {y : α}
    (hw : Region.wanted o (yielded ops a.tmps) = true) (s x : Operand) (ho : o.op = .call { callee := .builtin .append, args := #[s, x], argTypes := #[st, st] })
    (hs : a.eval s = v) (hx : a.eval x = .slice (some ⟨H, 0, none⟩) 1 1) (hown : OS E t w B v xs) (hr : RS E w (some ⟨H, 0, none⟩) 1 [y]) (hm : xs.length + 1 ≤ maxLen) (hn : (xs.length + 1) * bytes ≤ 140737488355328) (hB : B ≤ w.heap.size)
    (h : ∀ v' w', OS E t w' B v' (xs ++ [y]) → OS E t w' B v xs → w.grownBy w' v.ownBlock → (v'.ownBlock = v.ownBlock ∨ v'.ownBlock = some w.heap.size) → K (a.put o.dst v') w') :
    if Region.wanted o (yielded ops a.tmps) = true then Oper.wp Try.prog o a w K Q else F := by
  rw [if_pos hw]
  exact wp_append_keep T s x ho hs hx hown hr hm hn hB h
end
/-- Numbers in memory. -/
def NE : El Nat := ⟨1, fun x => [.int .i64 (x : Int)], fun _ => rfl, fun _ u hu => by simp at hu; subst hu; rfl, by omega⟩
theorem tyN : Ty NE 22 3 8 := ⟨Try.underlying22, .int .i64 0, by kernel_rfl, rfl⟩
theorem NE_ri {w : World} {A : Option Addr} {n : Nat} {xs : List Nat} (h : RS NE w A n xs) : RI w A n (xs.map fun (x : Nat) => (x : Int)) := by
  have e : NE.all xs = ints (xs.map fun (x : Nat) => (x : Int)) := by
    induction xs generalizing A n with
    | nil => rfl
    | cons x xs ih =>
      have : ∀ ys : List Nat, NE.all ys = ints (ys.map fun (x : Nat) => (x : Int)) := by
        intro ys
        induction ys with
        | nil => rfl
        | cons y ys ih => rw [El.all_cons, ih]; rfl
      exact this _
  unfold RI
  rw [← e]; exact h
end Go.Proofs.Ytkcmbpokoijglaa
