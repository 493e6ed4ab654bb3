/- Plain law of MotifsAll. -/
import Derived.Test.YtkcmbpokoijglaaMocE
import Derived.Test.YtkcmbpokoijglaaMoaB
set_option linter.unusedVariables false
set_option linter.unusedSimpArgs false
namespace CoMot
/-- A wider width has at least as many. -/
theorem inst_wider {l : List Tick} {w w' : Int} {M : List Step} (hw : 0 ≤ w) (hl : ∀ y ∈ l, 0 ≤ y.t) (h : w ≤ w') : (inst l w M).length ≤ (inst l w' M).length := by
  have h1 := len_le_of_sub (inst_nodup l w M) (b := (inst l w' M).map (·.1)) (fun a ha => by
    obtain ⟨p, hp, rfl⟩ := List.mem_map.1 ha
    obtain ⟨h1, ⟨g1, g2, g3⟩, h3, h4⟩ := (mem_inst hw hl p).1 hp
    exact List.mem_map.2 ⟨p, (mem_inst (by omega) hl p).2 ⟨h1, ⟨g1, g2, fun b hb i hi => Int.le_trans (g3 b hb i hi) h⟩, h3, h4⟩, rfl⟩)
  simpa using h1
def mov (d : Int) (l : List Tick) : List Tick := l.map fun x => ⟨x.u, x.v, x.t + d⟩
theorem mov_len (d : Int) (l : List Tick) : (mov d l).length = l.length := by simp [mov]
theorem mov_take {d : Int} {l : List Tick} {k : Nat} {x : Tick} (hx : l[k]? = some x) : mov d (l.take (k + 1)) = mov d (l.take k) ++ [⟨x.u, x.v, x.t + d⟩] := by
  unfold mov; rw [List.take_add_one, hx, List.map_append]; rfl
theorem mov_tim {d : Int} {l : List Tick} {i : Nat} (hi : i < l.length) : tim (mov d l) i = tim l i + d := by
  unfold tim mov
  rw [List.getElem?_map, List.getElem?_eq_getElem hi]; rfl
theorem mov_ends (d : Int) (l : List Tick) (a : List Nat) : ends (mov d l) a = ends l a := by
  unfold ends mov
  refine List.map_congr_left fun i _ => ?_
  rw [List.getElem?_map]
  cases l[i]? <;> rfl
theorem mov_good {d : Int} {l : List Tick} {w : Int} {a : List Nat} : Good (mov d l) w a ↔ Good l w a := by
  unfold Good
  rw [mov_len]
  constructor
  · rintro ⟨h1, h2, h3⟩
    refine ⟨h1, List.Pairwise.imp_of_mem (fun {i j} hi hj h => ?_) h2, fun b hb i hi => ?_⟩
    · rw [mov_tim (h1 i hi), mov_tim (h1 j hj)] at h; omega
    · have := h3 b hb i hi
      rw [mov_tim (h1 i hi), mov_tim (h1 b (List.mem_of_head? hb))] at this; omega
  · rintro ⟨h1, h2, h3⟩
    refine ⟨h1, List.Pairwise.imp_of_mem (fun {i j} hi hj h => ?_) h2, fun b hb i hi => ?_⟩
    · rw [mov_tim (h1 i hi), mov_tim (h1 j hj)]; omega
    · have := h3 b hb i hi
      rw [mov_tim (h1 i hi), mov_tim (h1 b (List.mem_of_head? hb))]; omega
/-- Times that are moved have as many. -/
theorem inst_mov {d : Int} {l : List Tick} {w : Int} {M : List Step} (hw : 0 ≤ w) (hd : 0 ≤ d) (hl : ∀ y ∈ l, 0 ≤ y.t) : (inst (mov d l) w M).length = (inst l w M).length := by
  have hl' : ∀ y ∈ mov d l, 0 ≤ y.t := fun y hy => by
    obtain ⟨x, hx, rfl⟩ := List.mem_map.1 hy
    have := hl x hx; simp only; omega
  refine same_len (inst_nodup _ _ _) (inst_nodup _ _ _) (fun p => ?_)
  rw [mem_inst hw hl', mem_inst hw hl, mov_ends, mov_good]
theorem sum_zero {α : Type} (D : List α) : (D.map fun _ => 0).sum = 0 := by
  induction D with
  | nil => rfl
  | cons y D ih => rw [List.map_cons, List.sum_cons, ih]
/-- Are these two ticks an instance? -/
def pc (l : List Tick) (w : Int) (i k : Nat) : Bool := match l[i]?, l[k]? with
  | some x, some y => decide (i < k) && ((ofR [x, y]).isSome && (decide (x.t < y.t) && decide (y.t - x.t ≤ w)))
  | _, _ => false
def rc (l : List Tick) (w : Int) (i k : Nat) : Nat := if pc l w i k = true then 1 else 0
def rowS (l : List Tick) (w : Int) (i k : Nat) : Nat := ((List.range k).map (rc l w i)).sum
def totS (l : List Tick) (w : Int) (i : Nat) : Nat := ((List.range i).map fun j => rowS l w j l.length).sum
theorem rowS_succ (l : List Tick) (w : Int) (i k : Nat) : rowS l w i (k + 1) = rowS l w i k + rc l w i k := by
  unfold rowS; rw [List.range_succ, List.map_append, List.sum_append]; simp
theorem totS_succ (l : List Tick) (w : Int) (i : Nat) : totS l w (i + 1) = totS l w i + rowS l w i l.length := by
  unfold totS; rw [List.range_succ, List.map_append, List.sum_append]; simp
theorem rc_low (l : List Tick) (w : Int) {i k : Nat} (h : k ≤ i) : rc l w i k = 0 := by
  unfold rc pc
  rw [if_neg]
  split
  · rw [decide_eq_false (by omega)]; simp
  · simp
theorem rowS_low (l : List Tick) (w : Int) (i : Nat) : ∀ k, k ≤ i + 1 → rowS l w i k = 0 := by
  intro k
  induction k with
  | zero => intro _; rfl
  | succ k ih => intro h; rw [rowS_succ, ih (by omega), rc_low l w (by omega)]
theorem rowS_le (l : List Tick) (w : Int) (i : Nat) : ∀ k, rowS l w i k ≤ k := by
  intro k
  induction k with
  | zero => exact Nat.le_refl _
  | succ k ih => rw [rowS_succ]; unfold rc; split <;> omega
theorem totS_le (l : List Tick) (w : Int) : ∀ i, totS l w i ≤ i * l.length := by
  intro i
  induction i with
  | zero => exact Nat.zero_le _
  | succ i ih => rw [totS_succ, Nat.add_mul]; have := rowS_le l w i l.length; omega
/-- There are as many as pairs. -/
theorem all_two {l : List Tick} {w : Int} (hl : ∀ y ∈ l, 0 ≤ y.t) : (sub l w (fun _ => true) 2 [] [] []).length = totS l w l.length := by
  rw [sub_succ, List.length_flatMap]
  unfold totS
  congr 1
  refine List.map_congr_left fun i hi => ?_
  rw [List.mem_range] at hi
  unfold one
  rw [List.getElem?_eq_getElem hi]
  simp only
  have hx := hl _ (List.getElem_mem hi)
  generalize hxx : l[i] = x at *
  have hxi : l[i]? = some x := by rw [List.getElem?_eq_getElem hi, hxx]
  have hn : nextB l w [] x i = true := by unfold nextB; simp; omega
  rw [if_pos hn]
  have key : ∀ k, k < l.length → rc l w i k = match l[k]? with
      | none => 0
      | some y => if nextB l w [i] y k = true then (match add [] x.u x.v with
        | none => 0
        | some (ns, s) => match add ns y.u y.v with
          | none => 0
          | some _ => 1) else 0 := fun k hk => by
    rw [List.getElem?_eq_getElem hk]
    generalize hyy : l[k] = y
    have hyk : l[k]? = some y := by rw [List.getElem?_eq_getElem hk, hyy]
    unfold rc pc
    rw [hxi, hyk]
    simp only
    have hof : (ofR [x, y]).isSome = (match add [] x.u x.v with
        | none => false
        | some (ns, s) => match add ns y.u y.v with
          | none => false
          | some _ => true) := by
      unfold ofR ofL
      simp only [List.length_cons, List.length_nil, List.map_cons, List.map_nil, pr]
      rw [if_neg (by omega)]
      unfold ofG
      simp only
      cases add [] x.u x.v with
      | none => rfl
      | some q =>
        obtain ⟨ns, s⟩ := q
        simp only
        unfold ofG
        simp only
        cases add ns y.u y.v with
        | none => rfl
        | some q2 => obtain ⟨ns2, s2⟩ := q2; rfl
    have hnb : nextB l w [i] y k = (decide (i < k) && (decide (x.t < y.t) && decide (y.t - x.t ≤ w))) := by
      unfold nextB
      simp only [List.head?_cons, List.getLast?_singleton, hxi, Option.map_some, Option.getD_some]
      cases decide (i < k) <;> cases decide (x.t < y.t) <;> cases decide (y.t - x.t ≤ w) <;> rfl
    cases hA : add [] x.u x.v with
    | none =>
      rw [hA] at hof
      simp only at hof
      rw [if_neg (by rw [hof]; simp)]
      split <;> rfl
    | some q =>
      obtain ⟨ns, s⟩ := q
      rw [hA] at hof
      simp only at hof ⊢
      cases hB : add ns y.u y.v with
      | none =>
        rw [hB] at hof
        rw [if_neg (by rw [hof]; simp)]
        split <;> rfl
      | some q2 =>
        rw [hB] at hof
        by_cases hb : nextB l w [i] y k = true
        · rw [if_pos hb]
          rw [hnb] at hb
          rw [if_pos (by rw [hof]; simpa using hb)]
        · rw [if_neg hb]
          rw [hnb] at hb
          rw [if_neg (by rw [hof]; simpa using hb)]
  unfold rowS
  cases ha : add [] x.u x.v with
  | none =>
    have : (List.range l.length).map (rc l w i) = (List.range l.length).map (fun _ => 0) := List.map_congr_left fun k hk => by
      rw [List.mem_range] at hk
      rw [key k hk, ha, List.getElem?_eq_getElem hk]
      simp
    rw [this, sum_zero]; rfl
  | some q =>
    obtain ⟨ns, s⟩ := q
    simp only [if_true]
    rw [sub_succ, List.length_flatMap]
    congr 1
    refine List.map_congr_left fun k hk => ?_
    rw [List.mem_range] at hk
    rw [key k hk, ha]
    unfold one
    rw [List.getElem?_eq_getElem hk]
    simp only [List.nil_append]
    by_cases hb : nextB l w [i] l[k] k = true
    · rw [if_pos hb, if_pos hb]
      cases add ns l[k].u l[k].v with
      | none => rfl
      | some q2 => obtain ⟨ns2, s2⟩ := q2; simp [sub]
    · rw [if_neg hb, if_neg hb]; rfl
theorem sum_ones {D : List (List Step)} (hn : D.Nodup) {M : List Step} (hM : M ∈ D) : (D.map fun N => if M = N then 1 else 0).sum = 1 := by
  induction D with
  | nil => cases hM
  | cons N D ih =>
    rw [List.nodup_cons] at hn
    rw [List.map_cons, List.sum_cons]
    by_cases h : M = N
    · subst h
      have h0 : (D.map fun N => if M = N then 1 else 0) = D.map fun _ => 0 := List.map_congr_left fun N hN => if_neg (fun e => hn.1 (by rw [e]; exact hN))
      rw [if_pos rfl, h0, sum_zero]
    · rw [if_neg h, ih hn.2 ((List.mem_cons.1 hM).resolve_left h)]
/-- Told apart by what they are, they add up. -/
theorem sum_parts {D : List (List Step)} (hn : D.Nodup) : ∀ S : List (List Nat × List Step), (∀ p ∈ S, p.2 ∈ D) → (D.map fun M => (S.filter fun p => decide (p.2 = M)).length).sum = S.length := by
  intro S
  induction S with
  | nil => intro _; exact sum_zero D
  | cons p S ih =>
    intro h
    have e : (D.map fun M => ((p :: S).filter fun q => decide (q.2 = M)).length) = D.map fun M => (if p.2 = M then 1 else 0) + (S.filter fun q => decide (q.2 = M)).length := List.map_congr_left fun M _ => by
      rw [List.filter_cons]
      by_cases hp : p.2 = M
      · rw [decide_eq_true hp, if_pos rfl, if_pos hp, List.length_cons]; omega
      · rw [decide_eq_false hp, if_neg (by simp), if_neg hp]; omega
    have e2 : ∀ (f g : List Step → Nat) (L : List (List Step)), (L.map fun M => f M + g M).sum = (L.map f).sum + (L.map g).sum := fun f g L => by
      induction L with
      | nil => rfl
      | cons y L ih => simp only [List.map_cons, List.sum_cons, ih]; omega
    rw [e, e2, sum_ones hn (h p (by simp)), ih (fun q hq => h q (by simp [hq])), List.length_cons]
    omega
end CoMot
namespace Go.Proofs.Ytkcmbpokoijglaa
open Go.RowKit CoMot
theorem growL_all : ∀ k M v r, r.length = k → (vfr (some v) r).isSome = true → 1 ≤ v → M ++ r ∈ growL k M v := by
  intro k
  induction k with
  | zero => intro M v r hr _ _; rw [List.eq_nil_of_length_eq_zero hr, List.append_nil]; exact List.mem_singleton.2 rfl
  | succ k ih =>
    intro M v r hr hv h1
    match r, hr with
    | (a, b) :: r, hr =>
      unfold vfr at hv
      rw [List.foldl_cons] at hv
      show M ++ (a, b) :: r ∈ growL (k + 1) M v
      cases hvs : vs v (a, b) with
      | none =>
        have : ((some v).bind fun n => vs n (a, b)) = none := hvs
        rw [this] at hv
        have h2 := vfr_none r
        unfold vfr at h2
        rw [h2] at hv; cases hv
      | some n =>
        have hb0 : ((some v).bind fun n => vs n (a, b)) = some n := hvs
        rw [hb0] at hv
        have hn := vs_le hvs h1
        have hab : 0 ≤ a ∧ a ≤ v ∧ 0 ≤ b ∧ b ≤ v := by
          unfold vs at hvs
          rw [if_neg (by omega)] at hvs
          split at hvs
          · cases hvs
          · rename_i h; simp only at h; omega
        have h3 := ih (M ++ [(a, b)]) n r (by simpa using hr) hv (by omega)
        rw [List.append_assoc] at h3
        unfold growL
        refine List.mem_flatMap.2 ⟨a.toNat, by rw [List.mem_range]; omega, List.mem_flatMap.2 ⟨b.toNat, by rw [List.mem_range]; omega, ?_⟩⟩
        have ea : ((a.toNat : Nat) : Int) = a := by omega
        have eb : ((b.toNat : Nat) : Int) = b := by omega
        unfold gOne
        rw [ea, eb, hvs]
        exact h3
/-- Every motif is listed. -/
theorem motR_all {M : List Step} (h : vld M = true) : M ∈ motR (M.length : Int) := by
  obtain ⟨v1, v2, _⟩ := (vld_iff M).1 h
  have hf : (vf M).isSome = true := by
    unfold vld at h
    rw [Bool.and_eq_true] at h
    exact h.2
  unfold motR
  rw [if_pos (by omega)]
  match M, v1 with
  | x :: r, _ =>
    unfold vf at hf
    rw [List.foldl_cons] at hf
    cases hx : vs 0 x with
    | none =>
      have : ((some 0).bind fun n => vs n x) = none := hx
      rw [this] at hf
      have h2 := vfr_none r
      unfold vfr at h2
      rw [h2] at hf; cases hf
    | some n =>
      have hb0 : ((some 0).bind fun n => vs n x) = some n := hx
      rw [hb0] at hf
      have hx1 : x = (0, 1) ∧ n = 2 := by
        unfold vs at hx
        rw [if_pos rfl] at hx
        split at hx
        · rename_i e; injection hx with hx; exact ⟨e, hx.symm⟩
        · cases hx
      obtain ⟨rfl, rfl⟩ := hx1
      have := growL_all r.length [(0, 1)] 2 r rfl hf (by omega)
      have e : (((0, 1) :: r : List Step).length : Int).toNat - 1 = r.length := by simp
      rw [e]
      exact this
theorem motR2_nodup : (motR 2).Nodup := by decide +kernel
theorem motR2_len : (motR 2).length = 6 := by decide +kernel
/-- The spectrum of two steps adds up to the pairs. -/
theorem spec_sum {l : List Tick} {w : Int} (hw : 0 ≤ w) (hl : ∀ y ∈ l, 0 ≤ y.t) : ((motR 2).map fun M => (inst l w M).length).sum = totS l w l.length := by
  rw [← all_two hl]
  have h1 : ((motR 2).map fun M => (inst l w M).length) = (motR 2).map fun M => ((sub l w (fun _ => true) 2 [] [] []).filter fun p => decide (p.2 = M)).length := List.map_congr_left fun M hM => by
    have hM2 : M.length = 2 := by have := (motR_mem hM).1; omega
    rw [← cnt_inst hw hl hM2]
    unfold cntM
    congr 1
    refine List.filter_congr fun p hp => ?_
    have hp2 := ((mem_all hw hl p).1 hp)
    have hlen := ofL_len hp2.2.2
    have he : (ends l p.1).length = p.1.length := by simp [ends]
    exact decide_eq_decide.2 ⟨fun h => k8_inj (by omega) h, fun h => by rw [h]⟩
  rw [h1]
  refine sum_parts motR2_nodup _ fun p hp => ?_
  have hp2 := ((mem_all hw hl p).1 hp)
  have hlen := ofL_len hp2.2.2
  have he : (ends l p.1).length = p.1.length := by simp [ends]
  have hv := ofL_vld hp2.2.2 (by omega) (by omega)
  have := motR_all hv
  rwa [show ((p.2.length : Nat) : Int) = 2 by omega] at this
end Go.Proofs.Ytkcmbpokoijglaa
