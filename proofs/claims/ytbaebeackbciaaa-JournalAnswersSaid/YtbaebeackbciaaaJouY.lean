/- Plain law of journal.Batches; append in a fenced walk. -/
import Derived.Test.YtbaebeackbciaaaJouX
import Derived.Test.YtbaebeackbciaaaJouN
import Derived.Maps.AppendAt
set_option linter.unusedVariables false
set_option linter.unusedSimpArgs false
namespace CoEv
theorem snocInd {α : Type} {P : List α → Prop} (h0 : P []) (hs : ∀ L l, P L → P (L ++ [l])) (L : List α) : P L := by
  have h : ∀ R : List α, P R.reverse := by
    intro R
    induction R with
    | nil => exact h0
    | cons a r ih => rw [List.reverse_cons]; exact hs _ _ ih
  have := h L.reverse
  rwa [List.reverse_reverse] at this
def stS (s : Nat × Int) (l : List Ev) : Nat × Int := if s.2 = 0 then (if wrE s.1 l = 0 then (s.1 + (btc l).length, 0) else (s.1, wrE s.1 l)) else s
/-- How many bytes the first batches have, and the first error. -/
def st (L : List (List Ev)) : Nat × Int := L.foldl stS (0, 0)
theorem st_snoc (L : List (List Ev)) (l : List Ev) : st (L ++ [l]) = stS (st L) l := by simp [st]
theorem st_nil : st [] = (0, 0) := rfl
theorem st_len (L : List (List Ev)) : (st L).2 = 0 → (st L).1 = (joi L).length ∧ (joi L).length ≤ 1048576 := by
  refine snocInd (P := fun L => (st L).2 = 0 → (st L).1 = (joi L).length ∧ (joi L).length ≤ 1048576) (fun _ => ⟨rfl, by simp [joi]⟩) (fun L l ih => ?_) L
  · show (st (L ++ [l])).2 = 0 → _
    rw [st_snoc]
    unfold stS
    intro h
    by_cases h0 : (st L).2 = 0
    · rw [if_pos h0] at h ⊢
      obtain ⟨h1, h2⟩ := ih h0
      by_cases hw : wrE (st L).1 l = 0
      · rw [if_pos hw]
        rw [h1] at hw ⊢
        have hb := Go.Proofs.Ytbaebeackbciaaa.wrE_len hw
        rw [joi_append, joi_one, List.length_append]
        refine ⟨rfl, ?_⟩
        rw [btc_len]; omega
      · rw [if_neg hw] at h; exact absurd h hw
    · rw [if_neg h0] at h; exact absurd h h0
theorem st_good {L : List (List Ev)} {l : List Ev} (h : (st L).2 = 0) : (st (L ++ [l])).2 = wrE (joi L).length l := by
  rw [st_snoc]
  unfold stS
  rw [if_pos h, (st_len L h).1]
  split
  · rename_i h1; exact h1.symm
  · rfl
theorem st_stuck {L : List (List Ev)} (h : (st L).2 ≠ 0) (R : List (List Ev)) : (st (L ++ R)).2 = (st L).2 := by
  refine snocInd (P := fun R => (st (L ++ R)).2 = (st L).2) (by rw [List.append_nil]) (fun R l ih => ?_) R
  · show (st (L ++ (R ++ [l]))).2 = _
    rw [← List.append_assoc, st_snoc]
    unfold stS
    rw [if_neg (by rw [ih]; exact h), ih]
end CoEv
namespace Go.Proofs.Ytbaebeackbciaaa
open Go.RowKit Go.Shelf CoEv

theorem wpListIn_catG {α : Type} {E : El α} {st t : TypeId} {bytes : Nat} (T : Ty E st t bytes) {F : Fence} {nF : Nat} {ops : Array Oper} {rest : List Oper} {o : Oper} {a : Act} {Q : Exit → Act → World → Prop} {w : World} {B : Nat} {v : Value} {xs zs : List α} {A : Option Addr} {m c : Nat}
    (hgd : o.guard = none) (s x : Operand) (ho : o.op = .call { callee := .builtin .append, args := #[s, x], argTypes := #[st, st] })
    (hs : a.eval s = v) (hx : a.eval x = .slice A m c) (hown : OS E t w B v xs) (hr : RS E w A m zs) (hpos : 0 < m) (hm : xs.length + m ≤ maxLen) (hn : (xs.length + m) * bytes ≤ 140737488355328) (hB : B ≤ w.heap.size)
    (h : ∀ v' w', OS E t w' B v' (xs ++ zs) → Below B w w' → w.grownBy w' v.ownBlock → wpListIn F nF Try.prog ops Q rest (a.put o.dst v') w') :
    wpListIn F nF Try.prog ops Q (o :: rest) a w := by
  obtain ⟨z, hi, hzs⟩ := T.info
  obtain ⟨i0, hi0, hz0, hz1, hz2⟩ := info_parts hi
  have hl := hr.len
  obtain ⟨ad, rfl, _, hc⟩ := hr.2 (by omega)
  refine wpListIn_append_own w hgd s x _ ho B t i0 _ E.size bytes T.und hi0 hz0 hz1 hz2 hzs E.pos v xs.length (E.all xs) hs hown ad m c (E.all zs) hx (by rw [E.all_length, hl]) hc (E.all_one _) hm hn hB ?_
  intro v' w' h1 h2 _
  refine h v' w' ?_ (below_own (Below.refl _ _) h2 hB (own_block hown)) h2
  unfold OS
  rw [List.length_append, E.all_append, hl]; exact h1
end Go.Proofs.Ytbaebeackbciaaa
