/- Package core, fourth part: Check. -/
import Derived.Test.YtdibfecejgjfmaaGreatDoorCorC
import Derived.Test.YtdibfecejgjfmaaGreatDoorRCoF
set_option linter.unusedVariables false
namespace Go.Proofs.YtdibfecejgjfmaaGreatDoor
open Go.RowKit CoBit

theorem Tab.below2 {w w' : World} {b : Nat} (h : Tab w) (hb : Below b w w') (hB : w.heap.size ≤ b) : Tab w' := h.keep (hb.mono hB)
end Go.Proofs.YtdibfecejgjfmaaGreatDoor

namespace Go.Proofs.YtdibfecejgjfmaaGreatDoor
open Go.RowKit CoBit

end Go.Proofs.YtdibfecejgjfmaaGreatDoor

namespace Go.Proofs.YtdibfecejgjfmaaGreatDoor
open Go.RowKit CoBit

/-- Block g holds the 64 buckets. -/
def AW (w : World) (g : Nat) (xs : List Nat) : Prop := Blk w g 89 (u64s xs).toArray
section
variable {w w' : World} {g : Nat} {us : List Nat}
theorem AW.lt (h : AW w g us) : g < w.heap.size := Blk.lt h
theorem AW.cell (h : AW w g us) {i : Nat} (hi : i < us.length) : w.cell? ⟨g, i, none⟩ = some (.int .u64 ((us.getD i 0 : Nat) : Int)) := by
  rw [Blk.cell h i]
  simp [u64s, List.getD_eq_getElem?_getD, hi]
theorem AW.frozen (h : AW w g us) (i : Nat) : w.frozen? ⟨g, i, none⟩ = false := Blk.frozen h i
theorem AW.set (h : AW w g us) (i : Nat) (v : Nat) : AW (w.setCell ⟨g, i, none⟩ (.int .u64 (v : Int))) g (us.set i v) := by
  have := Blk.set h i (.int .u64 (v : Int))
  unfold AW
  have e : (u64s us).toArray.setIfInBounds i (.int .u64 (v : Int)) = (u64s (us.set i v)).toArray := by simp [u64s, List.map_set]
  rwa [e] at this
theorem AW.far (h : AW w g us) {p : Addr} (hp : g ≠ p.block) (u : Value) : AW (w.setCell p u) g us := Blk.far h hp u
theorem AW.below {B : Nat} (h : AW w g us) (hb : Below B w w') (hg : g < B) : AW w' g us := Blk.below h hb hg
theorem AW.grown {row : Option Nat} (h : AW w g us) (hb : w.grownBy w' row) (hg : some g ≠ row) : AW w' g us := Blk.grown h hb hg
theorem AW.alloc (h : AW w g us) (o : Obj) : AW (w.alloc o) g us := Blk.alloc h o
theorem AW.drewN (h : AW w g us) (n : Nat) : AW (w.drewN n) g us := h
end
theorem OI.set {w : World} {B : Nat} {v : Value} {ys : List Int} (h : OI w B v ys) {g : Nat} (i : Nat) (hg : g < B) (u : Value) : OI (w.setCell ⟨g, i, none⟩ u) B v ys :=
  OI.kept (row := some g) h (grown_setB (World.grownBy.refl _ _) i u) (.inr fun e => by have := (h.block_lt _ e).1; omega)

/-- The blocks of the peeling. -/
structure PW (w0 w : World) (gr gb gd gn B : Nat) (rows bu : List Nat) (de nu : List Int) (v : Value) (o : List Int) : Prop where
  fr : AU w gr rows
  fb : AW w gb bu
  fd : AI w gd de
  fn : AI w gn nu
  fo : OI w B v o
  bw : Below w0.heap.size w0 w
  l : w0.heap.size ≤ gr ∧ gr < gb ∧ gb < gd ∧ gd < gn ∧ gn < B ∧ B ≤ w.heap.size
section
variable {w0 w w' : World} {gr gb gd gn B : Nat} {rows bu : List Nat} {de nu : List Int} {v : Value} {o : List Int}
theorem PW.setB (h : PW w0 w gr gb gd gn B rows bu de nu v o) (i : Nat) (x : Nat) : PW w0 (w.setCell ⟨gb, i, none⟩ (.int .u64 (x : Int))) gr gb gd gn B rows (bu.set i x) de nu v o := by
  have := h.l
  exact ⟨h.fr.far (p := ⟨gb, i, none⟩) (by simp; omega) _, h.fb.set i x, h.fd.far (p := ⟨gb, i, none⟩) (by simp; omega) _, h.fn.far (p := ⟨gb, i, none⟩) (by simp; omega) _, h.fo.set i (by omega) _, h.bw.setCell (p := ⟨gb, i, none⟩) (by simp; omega) _, by simpa using this⟩
theorem PW.setD (h : PW w0 w gr gb gd gn B rows bu de nu v o) (i : Nat) (x : Int) : PW w0 (w.setCell ⟨gd, i, none⟩ (.int .i64 x)) gr gb gd gn B rows bu (de.set i x) nu v o := by
  have := h.l
  exact ⟨h.fr.far (p := ⟨gd, i, none⟩) (by simp; omega) _, h.fb.far (p := ⟨gd, i, none⟩) (by simp; omega) _, h.fd.set i x, h.fn.far (p := ⟨gd, i, none⟩) (by simp; omega) _, h.fo.set i (by omega) _, h.bw.setCell (p := ⟨gd, i, none⟩) (by simp; omega) _, by simpa using this⟩
theorem PW.setN (h : PW w0 w gr gb gd gn B rows bu de nu v o) (i : Nat) (x : Int) : PW w0 (w.setCell ⟨gn, i, none⟩ (.int .i64 x)) gr gb gd gn B rows bu de (nu.set i x) v o := by
  have := h.l
  exact ⟨h.fr.far (p := ⟨gn, i, none⟩) (by simp; omega) _, h.fb.far (p := ⟨gn, i, none⟩) (by simp; omega) _, h.fd.far (p := ⟨gn, i, none⟩) (by simp; omega) _, h.fn.set i x, h.fo.set i (by omega) _, h.bw.setCell (p := ⟨gn, i, none⟩) (by simp; omega) _, by simpa using this⟩
theorem PW.below (h : PW w0 w gr gb gd gn B rows bu de nu v o) (hb : Below w.heap.size w w') : PW w0 w' gr gb gd gn B rows bu de nu v o := by
  have := h.l
  have h2 := h.bw.size
  have h3 := hb.size
  exact ⟨h.fr.below hb (by omega), h.fb.below hb (by omega), h.fd.below hb (by omega), h.fn.below hb (by omega), h.fo.below hb (Nat.le_refl _), h.bw.trans (hb.mono h2), by omega⟩
theorem PW.push (h : PW w0 w gr gb gd gn B rows bu de nu v o) {v' : Value} {o' : List Int} (ho : OI w' B v' o') (hb : Below B w w') : PW w0 w' gr gb gd gn B rows bu de nu v' o' := by
  have := h.l
  have h2 := h.bw.size
  have h3 := hb.size
  exact ⟨h.fr.below hb (by omega), h.fb.below hb (by omega), h.fd.below hb (by omega), h.fn.below hb (by omega), ho, h.bw.trans (hb.mono (by omega)), by omega⟩
theorem PW.drewN (h : PW w0 w gr gb gd gn B rows bu de nu v o) (k : Nat) : PW w0 (w.drewN k) gr gb gd gn B rows bu de nu v o :=
  h.below (below_drewN (Below.refl _ _) k)
theorem PW.drew (h : PW w0 w gr gb gd gn B rows bu de nu v o) : PW w0 w.drew gr gb gd gn B rows bu de nu v o :=
  h.below (Below.refl _ _).drew
theorem PW.alloc (h : PW w0 w gr gb gd gn B rows bu de nu v o) (ob : Obj) : PW w0 (w.alloc ob) gr gb gd gn B rows bu de nu v o :=
  h.below ((Below.refl _ _).alloc (Nat.le_refl _) ob)
end

/-- The blocks while the buckets are filled. -/
structure FW (w0 w : World) (gr gb gd : Nat) (rows bu : List Nat) (de : List Int) : Prop where
  fr : AU w gr rows
  fb : AW w gb bu
  fd : AI w gd de
  bw : Below w0.heap.size w0 w
  l : w0.heap.size ≤ gr ∧ gr < gb ∧ gb < gd
section
variable {w0 w w' : World} {gr gb gd : Nat} {rows bu : List Nat} {de : List Int}
theorem FW.setB (h : FW w0 w gr gb gd rows bu de) (i : Nat) (x : Nat) : FW w0 (w.setCell ⟨gb, i, none⟩ (.int .u64 (x : Int))) gr gb gd rows (bu.set i x) de := by
  have := h.l
  exact ⟨h.fr.far (p := ⟨gb, i, none⟩) (by simp; omega) _, h.fb.set i x, h.fd.far (p := ⟨gb, i, none⟩) (by simp; omega) _, h.bw.setCell (p := ⟨gb, i, none⟩) (by simp; omega) _, h.l⟩
theorem FW.setD (h : FW w0 w gr gb gd rows bu de) (i : Nat) (x : Int) : FW w0 (w.setCell ⟨gd, i, none⟩ (.int .i64 x)) gr gb gd rows bu (de.set i x) := by
  have := h.l
  exact ⟨h.fr.far (p := ⟨gd, i, none⟩) (by simp; omega) _, h.fb.far (p := ⟨gd, i, none⟩) (by simp; omega) _, h.fd.set i x, h.bw.setCell (p := ⟨gd, i, none⟩) (by simp; omega) _, h.l⟩
theorem FW.drew (h : FW w0 w gr gb gd rows bu de) : FW w0 w.drew gr gb gd rows bu de := ⟨h.fr, h.fb, h.fd, h.bw.drew, h.l⟩
end
theorem u64_orN {x b : Nat} (hx : x < 18446744073709551616) (hb : b < 64) : bits .or .u64 (x : Int) ((bitN b : Nat) : Int) = ((x ||| 2 ^ b : Nat) : Int) := bits_or_u64_nat x (2 ^ b) hx (two_pow_lt hb)
theorem fill_bk {n k : Nat} {bu : List Nat} {de : List Int} {d : Nat} (h : Bk n bu de (fun i => i < k)) (hk : k < n) (hn : n ≤ 64) (hd : d < 64) : Bk n (bu.set d (bu.getD d 0 ||| 2 ^ k)) (de.set k (d : Int)) (fun i => i < k + 1) :=
  (h.put hk hn (by omega) hd).congr fun i => by omega
theorem fill_de {n k : Nat} {bu : List Nat} {de : List Int} {rows : List Nat} {d : Nat} {P : Nat → Prop} (h : Bk n bu de P) (hk : k < n) (hd : pop (rows.getD k 0) = d) (hde : ∀ i, i < k → de.getD i 0 = (pop (rows.getD i 0) : Int)) : ∀ i, i < k + 1 → (de.set k (d : Int)).getD i 0 = (pop (rows.getD i 0) : Int) := by
  intro i hi
  rw [getD_set (by rw [h.dl]; exact hk)]
  by_cases e : i = k
  · subst e; rw [if_pos rfl, hd]
  · rw [if_neg e]; exact hde i (by omega)
theorem RI.set {w : World} {B : Nat} {A : Option Addr} {n : Nat} {xs : List Int} (h : RI w A n xs) (hf : Fr B A) {g : Nat} (i : Nat) (hg : g < B) (u : Value) : RI (w.setCell ⟨g, i, none⟩ u) A n xs :=
  RI.kept (row := some g) h (grown_setB (World.grownBy.refl _ _) i u) fun ad e he => by have := hf ad e; injection he with he; omega
theorem rst_all {n : Nat} (i : Nat) : (i : Int) ∈ rst n [] ↔ i < n := by
  rw [rst_nil, mem_rng]
  omega
theorem left_all {n : Nat} (i : Nat) : (2 ^ n - 1).testBit i = true ↔ (i : Int) ∈ rst n [] := by rw [all_bit, rst_all, decide_eq_true_eq]
theorem rst_len (n : Nat) (o : List Int) : (rst n o).length ≤ n := by
  unfold rst
  exact Nat.le_trans (List.length_filter_le _ _) (by rw [rng_length]; exact Nat.le_refl _)
theorem push_iff {n v : Nat} {o : List Int} (i : Nat) : ((i : Int) ∈ rst n o ∧ i ≠ v) ↔ (i : Int) ∈ rst n (o ++ [(v : Int)]) := by
  rw [mem_rst_push]
  exact and_congr_right fun _ => by omega
theorem ps_len {nb : Int → List Int} {n : Nat} {o : List Int} (h : PS nb n o) : o.length ≤ n := by
  have hr := ps_range h
  exact nodup_length hr.1 hr.2
theorem nts_at {us : List Nat} {j : Nat} {y : Int} (h : (nts us)[j]? = some y) : ∃ u : Nat, y = (u : Int) ∧ us[j]? = some u := by
  unfold nts at h
  rw [List.getElem?_map] at h
  cases hu : us[j]? with
  | none => rw [hu] at h; cases h
  | some u => rw [hu] at h; exact ⟨u, by injection h with h; exact h.symm, rfl⟩
theorem Bk.down' {n : Nat} {bu : List Nat} {de : List Int} {P : Nat → Prop} (h : Bk n bu de P) {v d D : Nat} (hp : P v) (hn : n ≤ 64) (hD : D = d + 1) (hd : D < 64) (hdv : de.getD v 0 = (D : Int)) :
    Bk n ((bu.set D (clr (bu.getD D 0) v)).set d ((bu.set D (clr (bu.getD D 0) v)).getD d 0 ||| 2 ^ v)) (de.set v (d : Int)) P := by
  subst hD
  exact h.down hp hn hd hdv
theorem di_step' {nb : Int → List Int} {L : List Int} {us : List Nat} {j u d D : Nat} {de : List Int} (h : DI nb L us j de) (hu : us[j]? = some u) (hnd : us.Nodup) (hul : u < de.length) (hD : D = d + 1) (hd : de.getD u 0 = (D : Int)) : DI nb L us (j + 1) (de.set u (d : Int)) := by
  subst hD
  exact di_step h hu hnd hul hd
end Go.Proofs.YtdibfecejgjfmaaGreatDoor
