/- (*levels.ladder).step and its deferred closure (printed by genStpA.py). -/
import Derived.Test.YticekkjambkifaaDoorOutB
import Derived.Defers
set_option linter.unusedVariables false
set_option linter.unusedSimpArgs false
namespace Go.Proofs.YticekkjambkifaaDoor.Fl
open Go.RowKit Go.Proofs.YticekkjambkifaaDoor CoBit CoRat Rt

/-- A dense set in memory. -/
structure Dn where
  A : Option Addr
  n : Nat
  c : Nat
  N : Int
  D : Int
  e : Int
  P : Option Addr
  m : Nat
  k : Nat
def DE : El Dn where
  size := 5
  cells r := [.slice r.A r.n r.c, .int .i64 r.N, .int .i64 r.D, .int .i64 r.e, .slice r.P r.m r.k]
  len _ := rfl
  one x u hu := by simp at hu; rcases hu with rfl | rfl | rfl | rfl | rfl <;> rfl
  pos := by omega
theorem tyD : Ty DE 39 48 72 := ⟨Tryd.underlying39, .agg #[.slice none 0 0, .int .i64 0, .int .i64 0, .int .i64 0, .slice none 0 0], by kernel_rfl, rfl⟩
/-- A dense set in memory that is a level. -/
def IsLv (w : World) (r : Dn) (l : Nat × Nat × Nat) : Prop := r.N = (l.2.1 : Nat) ∧ r.D = (l.2.2 : Nat) ∧ r.e = 0 ∧ r.P = none ∧ r.m = 0 ∧ r.k = 0 ∧ RI w r.A r.n (bset l.1) ∧ r.n ≤ r.c
/-- A list of levels, the call's own. -/
structure LvO (w : World) (B : Nat) (v : Value) (ls : List (Nat × Nat × Nat)) (rs : List Dn) : Prop where
  os : OS DE 48 w B v rs
  len : rs.length = ls.length
  el : ∀ (i : Nat) (r : Dn) (l : Nat × Nat × Nat), rs[i]? = some r → ls[i]? = some l → IsLv w r l
  fr : ∀ r ∈ rs, ∀ ad, r.A = some ad → B ≤ ad.block ∧ some ad.block ≠ v.ownBlock ∧ ad.block < w.heap.size
section
variable {w w' : World} {B : Nat} {v v' : Value} {ls : List (Nat × Nat × Nat)} {rs : List Dn} {r : Dn} {l : Nat × Nat × Nat}
theorem LvO.nil_ : LvO w B (.slice none 0 0) [] [] := ⟨OS.nil_, rfl, fun i r l h => by simp at h, fun r h => by cases h⟩
theorem LvO.below (h : LvO w B v ls rs) (hb : Below w.heap.size w w') : LvO w' B v ls rs :=
  ⟨h.os.below hb (Nat.le_refl _), h.len, fun i r l h1 h2 => by
    obtain ⟨a1, a2, a3, a4, a5, a6, a7, a8⟩ := h.el i r l h1 h2
    exact ⟨a1, a2, a3, a4, a5, a6, a7.below hb (Nat.le_refl _), a8⟩, fun r hr ad e => by
    have := h.fr r hr ad e
    exact ⟨this.1, this.2.1, Nat.lt_of_lt_of_le this.2.2 hb.size⟩⟩
theorem LvO.far (h : LvO w B v ls rs) {g : Nat} (i : Nat) (hg : g < B) (u : Value) : LvO (w.setCell ⟨g, i, none⟩ u) B v ls rs :=
  ⟨h.os.set_far (p := ⟨g, i, none⟩) hg u, h.len, fun k r l h1 h2 => by
    obtain ⟨a1, a2, a3, a4, a5, a6, a7, a8⟩ := h.el k r l h1 h2
    refine ⟨a1, a2, a3, a4, a5, a6, RI.farF a7 i (fun ad e => ?_) u, a8⟩
    have := h.fr r (List.mem_of_getElem? h1) ad e
    omega, fun r hr ad e => by
    have := h.fr r hr ad e
    exact ⟨this.1, this.2.1, by simpa using this.2.2⟩⟩
theorem LvO.push (h : LvO w B v ls rs) (ho : OS DE 48 w' B v' (rs ++ [r])) (hg : w.grownBy w' v.ownBlock) (hv : v'.ownBlock = v.ownBlock ∨ ∃ k, v'.ownBlock = some k ∧ w.heap.size ≤ k)
    (hl : IsLv w r l) (hr : ∀ ad, r.A = some ad → B ≤ ad.block ∧ some ad.block ≠ v.ownBlock ∧ ad.block < w.heap.size) : LvO w' B v' (ls ++ [l]) (rs ++ [r]) := by
  have hall : ∀ x ∈ rs ++ [r], ∀ ad, x.A = some ad → B ≤ ad.block ∧ some ad.block ≠ v.ownBlock ∧ ad.block < w.heap.size := fun x hx => by
    rcases List.mem_append.1 hx with hx | hx
    · exact h.fr x hx
    · rw [List.mem_singleton] at hx; subst hx; exact hr
  refine ⟨ho, by simp [h.len], fun i x y h1 h2 => ?_, fun x hx ad e => ?_⟩
  · have hk : ∀ x y, IsLv w x y → (∀ ad, x.A = some ad → some ad.block ≠ v.ownBlock) → IsLv w' x y := fun x y ⟨a1, a2, a3, a4, a5, a6, a7, a8⟩ hn => ⟨a1, a2, a3, a4, a5, a6, RI.kept a7 hg hn, a8⟩
    refine hk x y ?_ (fun ad e => (hall x (List.mem_of_getElem? h1) ad e).2.1)
    rcases Nat.lt_or_ge i rs.length with hi | hi
    · rw [List.getElem?_append_left hi] at h1
      rw [List.getElem?_append_left (by rw [← h.len]; exact hi)] at h2
      exact h.el i x y h1 h2
    · rw [List.getElem?_append_right hi] at h1
      rw [List.getElem?_append_right (by rw [← h.len]; exact hi), ← h.len] at h2
      cases hd : i - rs.length with
      | zero => rw [hd] at h1 h2; injection h1 with h1; injection h2 with h2; subst h1; subst h2; exact hl
      | succ j => rw [hd] at h1; simp at h1
  · obtain ⟨b1, b2, b3⟩ := hall x hx ad e
    refine ⟨b1, ?_, Nat.lt_of_lt_of_le b3 hg.size⟩
    rcases hv with hv | ⟨k, hv, hk⟩
    · rw [hv]; exact b2
    · rw [hv]; intro e; injection e with e; omega
end
/-- append of dense sets, with its block. -/
theorem step_catdb {ops : Array Oper} {o : Oper} {a : Act} {K : Act → World → Prop} {Q : Exit → Act → World → Prop} {w : World} {B : Nat} {v : Value} {ys zs : List Dn} {A : Option Addr} {m c : Nat} {E : Prop}
    (hgd : o.guard = none) (s x : Operand) (ho : o.op = .call { callee := .builtin .append, args := #[s, x], argTypes := #[39, 39] })
    (hs : a.eval s = v) (hx : a.eval x = .slice A m c) (hown : OS DE 48 w B v ys) (hr : RS DE w A m zs) (hn : ys.length + m ≤ 1099511627776) (hB : B ≤ w.heap.size)
    (h : ∀ v' w', OS DE 48 w' B v' (ys ++ zs) → w.grownBy w' v.ownBlock → (v'.ownBlock = v.ownBlock ∨ ∃ k, v'.ownBlock = some k ∧ w.heap.size ≤ k) → K (a.put o.dst v') w') :
    if Region.wanted o (yielded ops a.tmps) = true then Oper.wp Tryd.prog o a w K Q else E := by
  obtain ⟨z, hi, hzs⟩ := tyD.info
  obtain ⟨i0, hi0, hz0, hz1, hz2⟩ := info_parts hi
  refine step_append_any _ hgd s x _ ho B 48 i0 _ DE.size 72 tyD.und hi0 hz0 hz1 hz2 hzs DE.pos v ys.length (DE.all ys) hs hown _ _ m c (DE.all zs) hx hr (DE.all_one _) (by unfold maxLen; omega) (by omega) hB ?_
  intro v' w' h1 h2 h3
  refine h v' w' ?_ h2 ?_
  · unfold OS
    rw [List.length_append, DE.all_append, hr.len]; exact h1
  · rcases h3 with h3 | h3
    · exact .inl h3
    · exact .inr ⟨_, h3, Nat.le_refl _⟩
/-- The deferred closure: the level is laid to the inner set. -/
theorem stepEnd_any (gp gl gs inn x : Nat) (w : World) (hi : inn < 18446744073709551616) (hx : x < 18446744073709551616) (hp : w.cell? ⟨gp, 0, none⟩ = some (.pointer (some ⟨gl, 0, none⟩))) (hl : w.cell? ⟨gl, 0, none⟩ = some (.int .u64 (inn : Nat))) (hf : w.frozen? ⟨gl, 0, none⟩ = false) (hs : w.cell? ⟨gs, 0, none⟩ = some (.int .u64 (x : Nat))) :
    CallsD Tryd.prog 122 #[.pointer (some ⟨gp, 0, none⟩), .pointer (some ⟨gs, 0, none⟩)] .returning w fun e u' w' => u' = .returning ∧ (e = .returned (.tuple #[]) ∧ w' = w.drew.setCell ⟨gl, 0, none⟩ (.int .u64 ((inn ||| x : Nat) : Int))) := by
  have eo := bits_or_u64_nat inn x hi hx
  have p0 : w.drew.cell? ⟨gp, 0, none⟩ = some (.pointer (some ⟨gl, 0, none⟩)) := hp
  have l0 : w.drew.cell? ⟨gl, 0, none⟩ = some (.int .u64 (inn : Nat)) := hl
  have f0 : w.drew.frozen? ⟨gl, 0, none⟩ = false := hf
  have s0 : w.drew.cell? ⟨gs, 0, none⟩ = some (.int .u64 (x : Nat)) := hs
  generalize inn ||| x = z at *
  go_enter_d Tryd.func122, Tryd.ntmps122
  obtain ⟨SS, hSS⟩ : ∃ SS : World → Prop, ∀ w', SS w' ↔ (w'.cell? ⟨gp, 0, none⟩ = some (.pointer (some ⟨gl, 0, none⟩)) ∧ w'.cell? ⟨gl, 0, none⟩ = some (.int .u64 (inn : Nat)) ∧ w'.cell? ⟨gs, 0, none⟩ = some (.int .u64 (x : Nat))) := ⟨fun w' => _, fun _ => Iff.rfl⟩
  replace hSS := Lib.hid hSS
  have sX := (hSS.out w.drew).2 ⟨p0, l0, s0⟩
  go_upto_region 0 with fail
  refine wp_region_TS (T := fun j w' => j ∈ ([4, 7, 8, 9] : List Nat) ∨ SS w') (by kernel_rfl) ?_
  intro QQ hQQ hQP
  generalize w.drew = X at *
  refine takeU (i := 4) (M := [4, 7, 8, 9]) (S := SS) (d := some 6) (v := .pointer (some ⟨gs, 0, none⟩)) rfl rfl (by kernel_rfl) (by kernel_rfl) (by kernel_rfl) hQP.out (by decide) (Or.inl ⟨by rfl, fun w' _ => ?_⟩) ?_
  · go_simp
  (try simp only [Act.put, List.setIfInBounds_toArray, List.set_cons_zero, List.set_cons_succ])
  refine takeM (i := 0) (M := [4, 7, 8, 9]) (S := SS) (d := some 2) (v := .pointer (some ⟨gl, 0, none⟩)) rfl rfl (by kernel_rfl) (by kernel_rfl) (by kernel_rfl) hQP.out (by kernel_rfl) (Or.inl ⟨by rfl, fun w' hS => ?_⟩) sX ?_
  · obtain ⟨y0, y1, y2⟩ := (hSS.out _).1 hS
    go_simp
  (try simp only [Act.put, List.setIfInBounds_toArray, List.set_cons_zero, List.set_cons_succ])
  refine takeM (i := 1) (M := [4, 7, 8, 9]) (S := SS) (d := some 3) (v := .pointer (some ⟨gl, 0, none⟩)) rfl rfl (by kernel_rfl) (by kernel_rfl) (by kernel_rfl) hQP.out (by kernel_rfl) (Or.inl ⟨by rfl, fun w' hS => ?_⟩) sX ?_
  · obtain ⟨y0, y1, y2⟩ := (hSS.out _).1 hS
    go_simp
  (try simp only [Act.put, List.setIfInBounds_toArray, List.set_cons_zero, List.set_cons_succ])
  refine takeM (i := 2) (M := [4, 7, 8, 9]) (S := SS) (d := some 4) (v := .pointer (some ⟨gl, 0, none⟩)) rfl rfl (by kernel_rfl) (by kernel_rfl) (by kernel_rfl) hQP.out (by kernel_rfl) (Or.inl ⟨by rfl, fun w' hS => ?_⟩) sX ?_
  · obtain ⟨y0, y1, y2⟩ := (hSS.out _).1 hS
    go_simp
  (try simp only [Act.put, List.setIfInBounds_toArray, List.set_cons_zero, List.set_cons_succ])
  refine takeM (i := 3) (M := [4, 7, 8, 9]) (S := SS) (d := some 5) (v := .int .u64 (inn : Nat)) rfl rfl (by kernel_rfl) (by kernel_rfl) (by kernel_rfl) hQP.out (by kernel_rfl) (Or.inl ⟨by rfl, fun w' hS => ?_⟩) sX ?_
  · obtain ⟨y0, y1, y2⟩ := (hSS.out _).1 hS
    go_simp
  (try simp only [Act.put, List.setIfInBounds_toArray, List.set_cons_zero, List.set_cons_succ])
  refine takeM (i := 5) (M := [4, 7, 8, 9]) (S := SS) (d := some 7) (v := .int .u64 (x : Nat)) rfl rfl (by kernel_rfl) (by kernel_rfl) (by kernel_rfl) hQP.out (by kernel_rfl) (Or.inl ⟨by rfl, fun w' hS => ?_⟩) sX ?_
  · obtain ⟨y0, y1, y2⟩ := (hSS.out _).1 hS
    go_simp
  (try simp only [Act.put, List.setIfInBounds_toArray, List.set_cons_zero, List.set_cons_succ])
  refine takeM (i := 6) (M := [4, 7, 8, 9]) (S := SS) (d := some 8) (v := .int .u64 (z : Nat)) rfl rfl (by kernel_rfl) (by kernel_rfl) (by kernel_rfl) hQP.out (by kernel_rfl) (Or.inl ⟨by rfl, fun w' hS => ?_⟩) sX ?_
  · obtain ⟨y0, y1, y2⟩ := (hSS.out _).1 hS
    go_simp
  (try simp only [Act.put, List.setIfInBounds_toArray, List.set_cons_zero, List.set_cons_succ])
  refine takeU (i := 7) (M := [4, 7, 8, 9]) (S := SS) (d := some 9) (v := .pointer (some ⟨gl, 0, none⟩)) rfl rfl (by kernel_rfl) (by kernel_rfl) (by kernel_rfl) hQP.out (by decide) (Or.inl ⟨by rfl, fun w' _ => ?_⟩) ?_
  · go_simp
  (try simp only [Act.put, List.setIfInBounds_toArray, List.set_cons_zero, List.set_cons_succ])
  refine takeU (i := 8) (M := [4, 7, 8, 9]) (S := SS) (d := some 10) (v := .pointer (some ⟨gl, 0, none⟩)) rfl rfl (by kernel_rfl) (by kernel_rfl) (by kernel_rfl) hQP.out (by decide) (Or.inl ⟨by rfl, fun w' _ => ?_⟩) ?_
  · go_simp
  (try simp only [Act.put, List.setIfInBounds_toArray, List.set_cons_zero, List.set_cons_succ])
  refine wpAnyT_ready (rs := [9]) (by kernel_rfl) (by simp) ?_
  intro j hj
  rw [List.mem_singleton] at hj
  subst hj
  refine wpOpT_step (T := fun j w' => j ∈ ([4, 7, 8, 9] : List Nat) ∨ SS w') (by rfl) (fun K hK => ?_)
  go_simp
  refine hK.out _ _ ?_ ?_
  · exact .inl (by decide)
  clear hK K
  (try simp only [Act.put, List.setIfInBounds_toArray, List.set_cons_zero, List.set_cons_succ])
  refine wpAnyT_done (by kernel_rfl) (hQQ.out _ _ ?_) _
  clear hQQ hQP QQ
  go_wp2_with fail
  simp [bodyPost, results, Tryd.results122, go_sem]
end Go.Proofs.YticekkjambkifaaDoor.Fl
