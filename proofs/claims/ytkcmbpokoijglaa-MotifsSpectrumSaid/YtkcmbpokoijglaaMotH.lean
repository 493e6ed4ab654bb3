/- motifs.each. -/
import Derived.Test.YtkcmbpokoijglaaMotG
set_option linter.unusedVariables false
set_option linter.unusedSimpArgs false
namespace Go.Proofs.Ytkcmbpokoijglaa
open Go.RowKit CoMot

section
variable {e : EC} {fit : List Step → Bool} {J Jx : List (List Nat × List Step) → World → (Nat → Prop) → Prop}
theorem inner_any (hk : TK e fit J Jx) : ∀ (k : Nat) (at' : List Nat) (m : List Step) (cs : List Int) (ns : List Int) (s : ES) (pre : List (List Nat × List Step)), at'.length + k = e.K → m.length = at'.length → cs.length = 5 → cs.take ns.length = ns → ns.length ≤ at'.length + 1 → (∀ i ∈ at', i < e.n) → Stp m → Inv e at' m s → J pre s.W s.ow →
      Calls Try.prog 64 #[.agg (nmC cs ns.length), .pointer (some ⟨e.b + 5, 0, none⟩), .pointer (some ⟨e.b + 1, 0, none⟩), .pointer (some ⟨e.b + 4, 0, none⟩), .pointer (some ⟨e.b + 6, 0, none⟩), .pointer (some ⟨e.b, 0, none⟩), .pointer (some ⟨e.b + 2, 0, none⟩), .pointer (some ⟨e.b + 3, 0, none⟩), .pointer (some ⟨e.b + 7, 0, none⟩)] s.W (IPost e J Jx at' m s pre (sub e.l e.wd fit k at' m ns)) := by
  intro k
  induction k with
  | zero => intro at' m cs ns s pre hK hm h5 ht hn5 hat hsm hI hJ; exact inner_leaf hk at' m cs ns.length s pre (by omega) h5 hI ⟨hsm, hm⟩ hJ
  | succ k ih => intro at' m cs ns s pre hK hm h5 ht hn5 hat hsm hI hJ; exact inner_step hk k at' m cs ns s pre hK hm h5 ht hn5 hat hsm hI hJ ih
/-- All instances are handed over, one after the other, till the second function says that it is enough. -/
def EPost (W : World) (ow : Nat → Prop) (J Jx : List (List Nat × List Step) → World → (Nat → Prop) → Prop) (L : List (List Nat × List Step)) (r : Ending) (W' : World) : Prop :=
  ∃ ow', (∃ v, r = .returned v) ∧ Same ow W W' ∧ (J L W' ow' ∨ ∃ q t, L = q ++ t ∧ Jx q W' ow')
theorem new_at {W : World} {b : Nat} (h : W.heap.size = b) (cs : Array Value) (t : TypeId) : Blk (W.alloc (.cells cs t)) b t cs ∧ (W.alloc (.cells cs t)).heap.size = b + 1 := ⟨Blk.new' _ _ _ h.symm, by simp [h]⟩
set_option maxRecDepth 100000 in
set_option maxHeartbeats 4000000 in
theorem each_any (e : EC) (fit : List Step → Bool) (J Jx : List (List Nat × List Step) → World → (Nat → Prop) → Prop) (hk : TK e fit J Jx) (hb : e.W0.heap.size = e.b) (h0 : ∀ k, e.ow0 k → k < e.b) (hJ : J [] e.W0 e.ow0) :
    Calls Try.prog 41 #[.slice e.A e.n e.c, .int .i64 e.K, .int .i64 e.wd, .func (.func e.F) #[] e.cF, .func (.func e.T) #[] e.cT] e.W0 (EPost e.W0 e.ow0 J Jx (sub e.l e.wd fit e.K [] [] [])) := by
  obtain ⟨l, A, n, c, K, wd, F, cF, T, cT, b, W0, ow0⟩ := e
  simp only at hb h0 hJ ⊢
  obtain ⟨B1, z1⟩ := new_at hb #[.slice A n c] 27
  obtain ⟨B2, z2⟩ := new_at z1 #[.int .i64 (K : Int)] 3
  obtain ⟨B3, z3⟩ := new_at z2 #[.int .i64 wd] 3
  obtain ⟨B4, z4⟩ := new_at z3 #[.func (.func F) #[] cF] 31
  obtain ⟨B5, z5⟩ := new_at z4 #[.func (.func T) #[] cT] 75
  obtain ⟨B6, z6⟩ := new_at z5 #[.slice none 0 0] 22
  obtain ⟨B7, z7⟩ := new_at z6 #[.slice none 0 0] 29
  obtain ⟨B8, z8⟩ := new_at z7 #[.func (.func 64) #[] #[.pointer (some ⟨b + 5, 0, none⟩), .pointer (some ⟨b + 1, 0, none⟩), .pointer (some ⟨b + 4, 0, none⟩), .pointer (some ⟨b + 6, 0, none⟩), .pointer (some ⟨b, 0, none⟩), .pointer (some ⟨b + 2, 0, none⟩), .pointer (some ⟨b + 3, 0, none⟩), .pointer (some ⟨b + 7, 0, none⟩)]] 94
  have hS : Same ow0 W0 _ := ((((((((Same.refl ow0 W0).alloc (.cells #[.slice A n c] 27)).alloc (.cells #[.int .i64 (K : Int)] 3)).alloc (.cells #[.int .i64 wd] 3)).alloc (.cells #[.func (.func F) #[] cF] 31)).alloc (.cells #[.func (.func T) #[] cT] 75)).alloc (.cells #[.slice none 0 0] 22)).alloc (.cells #[.slice none 0 0] 29)).alloc (.cells #[.func (.func 64) #[] #[.pointer (some ⟨b + 5, 0, none⟩), .pointer (some ⟨b + 1, 0, none⟩), .pointer (some ⟨b + 4, 0, none⟩), .pointer (some ⟨b + 6, 0, none⟩), .pointer (some ⟨b, 0, none⟩), .pointer (some ⟨b + 2, 0, none⟩), .pointer (some ⟨b + 3, 0, none⟩), .pointer (some ⟨b + 7, 0, none⟩)]] 94)
  have hS2 : Same (fun k => ¬ ow0 k) W0 _ := ((((((((Same.refl (fun k => ¬ ow0 k) W0).alloc (.cells #[.slice A n c] 27)).alloc (.cells #[.int .i64 (K : Int)] 3)).alloc (.cells #[.int .i64 wd] 3)).alloc (.cells #[.func (.func F) #[] cF] 31)).alloc (.cells #[.func (.func T) #[] cT] 75)).alloc (.cells #[.slice none 0 0] 22)).alloc (.cells #[.slice none 0 0] 29)).alloc (.cells #[.func (.func 64) #[] #[.pointer (some ⟨b + 5, 0, none⟩), .pointer (some ⟨b + 1, 0, none⟩), .pointer (some ⟨b + 4, 0, none⟩), .pointer (some ⟨b + 6, 0, none⟩), .pointer (some ⟨b, 0, none⟩), .pointer (some ⟨b + 2, 0, none⟩), .pointer (some ⟨b + 3, 0, none⟩), .pointer (some ⟨b + 7, 0, none⟩)]] 94)
  have hI : Inv ⟨l, A, n, c, K, wd, F, cF, T, cT, b, W0, ow0⟩ [] [] ⟨ow0, .slice none 0 0, .slice none 0 0, ((((((((W0.alloc (.cells #[.slice A n c] 27)).alloc (.cells #[.int .i64 (K : Int)] 3)).alloc (.cells #[.int .i64 wd] 3)).alloc (.cells #[.func (.func F) #[] cF] 31)).alloc (.cells #[.func (.func T) #[] cT] 75)).alloc (.cells #[.slice none 0 0] 22)).alloc (.cells #[.slice none 0 0] 29)).alloc (.cells #[.func (.func 64) #[] #[.pointer (some ⟨b + 5, 0, none⟩), .pointer (some ⟨b + 1, 0, none⟩), .pointer (some ⟨b + 4, 0, none⟩), .pointer (some ⟨b + 6, 0, none⟩), .pointer (some ⟨b, 0, none⟩), .pointer (some ⟨b + 2, 0, none⟩), .pointer (some ⟨b + 3, 0, none⟩), .pointer (some ⟨b + 7, 0, none⟩)]] 94))⟩ :=
    ⟨(((((((B1.alloc _).alloc _).alloc _).alloc _).alloc _).alloc _).alloc _), ((((((B2.alloc _).alloc _).alloc _).alloc _).alloc _).alloc _), (((((B3.alloc _).alloc _).alloc _).alloc _).alloc _), ((((B4.alloc _).alloc _).alloc _).alloc _), (((B5.alloc _).alloc _).alloc _), ((B6.alloc _).alloc _), (B7.alloc _), B8,
      OS.nil_, OS.nil_, (fun k h => by cases h), (fun k h => by cases h), (fun k h => by cases h), (fun k h => ⟨Nat.lt_of_lt_of_le (h0 k h) (Nat.le_trans (Nat.le_of_eq hb.symm) hS.size), fun _ => h⟩), h0, hS, hb⟩
  have hJ8 := hk.keep _ _ _ _ hJ hS2
  have kin := inner_any hk K [] [] [0, 0, 0, 0, 0] [] ⟨ow0, .slice none 0 0, .slice none 0 0, ((((((((W0.alloc (.cells #[.slice A n c] 27)).alloc (.cells #[.int .i64 (K : Int)] 3)).alloc (.cells #[.int .i64 wd] 3)).alloc (.cells #[.func (.func F) #[] cF] 31)).alloc (.cells #[.func (.func T) #[] cT] 75)).alloc (.cells #[.slice none 0 0] 22)).alloc (.cells #[.slice none 0 0] 29)).alloc (.cells #[.func (.func 64) #[] #[.pointer (some ⟨b + 5, 0, none⟩), .pointer (some ⟨b + 1, 0, none⟩), .pointer (some ⟨b + 4, 0, none⟩), .pointer (some ⟨b + 6, 0, none⟩), .pointer (some ⟨b, 0, none⟩), .pointer (some ⟨b + 2, 0, none⟩), .pointer (some ⟨b + 3, 0, none⟩), .pointer (some ⟨b + 7, 0, none⟩)]] 94))⟩ [] (by simp) rfl rfl rfl (by simp) (by simp) Stp.nil hI hJ8
  replace kin := Lib.hid kin
  clear hI hJ8 hS hS2 B1 B2 B3 B4 B5 B6 B7 B8 z1 z2 z3 z4 z5 z6 z7 z8
  go_enter Try.func41, Try.ntmps41
  go_wp2_with fail
  refine Calls.mono kin.out ?_
  rintro r W' ⟨ow', av', mv', hI', hT', hr⟩
  rcases hr with ⟨rfl, hJ'⟩ | ⟨rfl, q, t, hq, hx⟩
  · go_wp2_with fail
    refine bodyPost_ret (results_none rfl _ _ _) rfl ?_
    exact ⟨ow', ⟨_, rfl⟩, hI'.kp, .inl hJ'⟩
  · go_wp2_with fail
    refine bodyPost_ret (results_none rfl _ _ _) rfl ?_
    exact ⟨ow', ⟨_, rfl⟩, hI'.kp, .inr ⟨q, t, hq, hx⟩⟩
end
end Go.Proofs.Ytkcmbpokoijglaa
