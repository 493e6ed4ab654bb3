/- The reader of a journal: batch. -/
import Derived.Test.YtbaebeackbciaaaJouE
set_option linter.unusedVariables false
set_option linter.unusedSimpArgs false
namespace CoEv
theorem one_ways (bs : List Nat) : (bs.length < 2 ∧ one bs = none) ∨ ∃ a c r, bs = a :: c :: r ∧ (((a = 0 ∨ a + c ≠ 255) ∧ one bs = none) ∨ (0 < a ∧ a + c = 255 ∧ ((r.length < 10 * a ∧ one bs = none) ∨ (10 * a ≤ r.length ∧ r.length < 10 * a + 4 ∧ one bs = none) ∨
    (10 * a + 4 ≤ r.length ∧ ((¬ (r.drop (10 * a)).take 4 = word (sum (a :: c :: r.take (10 * a))) ∧ one bs = none) ∨ ((r.drop (10 * a)).take 4 = word (sum (a :: c :: r.take (10 * a))) ∧ ((decE (r.take (10 * a)) ≠ 0 ∧ one bs = none) ∨ (decE (r.take (10 * a)) = 0 ∧ one bs = some (decL (r.take (10 * a)), 6 + 10 * a))))))))) := by
  match bs with
  | [] => left; exact ⟨by simp, rfl⟩
  | [_] => left; exact ⟨by simp, rfl⟩
  | a :: c :: r =>
    right
    refine ⟨a, c, r, rfl, ?_⟩
    unfold one
    by_cases h1 : a = 0 ∨ a + c ≠ 255
    · left; exact ⟨h1, if_pos h1⟩
    right
    refine ⟨by omega, by omega, ?_⟩
    simp only [if_neg h1]
    by_cases h2 : r.length < 10 * a + 4
    · simp only [if_pos h2]
      by_cases h3 : r.length < 10 * a
      · left; exact ⟨h3, trivial⟩
      · right; left; exact ⟨by omega, h2, trivial⟩
    · simp only [if_neg h2]
      right; right
      refine ⟨by omega, ?_⟩
      by_cases h4 : (r.drop (10 * a)).take 4 = word (sum (a :: c :: r.take (10 * a)))
      · simp only [if_pos h4]
        right
        refine ⟨h4, ?_⟩
        by_cases h5 : decE (r.take (10 * a)) = 0
        · right; exact ⟨h5, by rw [if_pos h5]⟩
        · left; exact ⟨h5, by rw [if_neg h5]⟩
      · simp only [if_neg h4]
        left; exact ⟨h4, trivial⟩
end CoEv
namespace Go.Proofs.Ytbaebeackbciaaa
open Go.RowKit CoEv

/-- Within batch: the reader's block, the two named results, and nothing else has changed. -/
def RW (w W : World) (g : Nat) (x : Value) : Prop :=
  Blk W g 59 #[x] ∧ Blk W w.heap.size 32 #[.slice none 0 0] ∧ Blk W (w.heap.size + 1) 4 #[.bool false] ∧ w.grownBy W (some g) ∧ g < w.heap.size
theorem grown_setJ {w W : World} {g : Nat} (h : w.grownBy W (some g)) (i : Nat) (y : Value) : w.grownBy (W.setCell ⟨g, i, none⟩ y) (some g) :=
  ⟨h.os, h.tape, h.output, by simpa using h.size, fun k hk hne => (Below.heap_setCell W ⟨g, i, none⟩ y k (fun e => hne (by rw [e]))).trans (h.block k hk hne)⟩
theorem grown_of_below {w W W' : World} {row : Option Nat} (h : w.grownBy W row) (hb : Below W.heap.size W W') : w.grownBy W' row :=
  ⟨hb.os.trans h.os, hb.tape.trans h.tape, hb.output.trans h.output, Nat.le_trans h.size hb.size, fun k hk hne => (hb.block k (Nat.lt_of_lt_of_le hk h.size)).trans (h.block k hk hne)⟩
theorem grown_new_set {w W : World} {row : Option Nat} (h : w.grownBy W row) {b : Nat} (hb : w.heap.size ≤ b) (i : Nat) (y : Value) : w.grownBy (W.setCell ⟨b, i, none⟩ y) row :=
  ⟨h.os, h.tape, h.output, by simpa using h.size, fun k hk hne => (Below.heap_setCell W ⟨b, i, none⟩ y k (by simp; omega)).trans (h.block k hk hne)⟩
section
variable {w W W' : World} {g : Nat} {x y : Value}
theorem RW.set (h : RW w W g x) (y : Value) : RW w (W.setCell ⟨g, 0, none⟩ y) g y := by
  obtain ⟨h1, h2, h3, h4, h5⟩ := h
  exact ⟨by simpa using h1.set 0 y, h2.far (by simp; omega) _, h3.far (by simp; omega) _, grown_setJ h4 0 y, h5⟩
theorem RW.below (h : RW w W g x) (hb : Below W.heap.size W W') : RW w W' g x := by
  obtain ⟨h1, h2, h3, h4, h5⟩ := h
  exact ⟨h1.below hb h1.lt, h2.below hb h2.lt, h3.below hb h3.lt, grown_of_below h4 hb, h5⟩
theorem RW.drewN (h : RW w W g x) (n : Nat) : RW w (W.drewN n) g x := h.below (below_drewN (Below.refl _ _) n)
theorem RW.drew (h : RW w W g x) : RW w W.drew g x := h.below (Below.refl _ _).drew
theorem RW.rd (h : RW w W g x) : Blk W g 59 #[x] := h.1
theorem RW.p (h : RW w W g x) : Blk W w.heap.size 32 #[.slice none 0 0] := h.2.1
theorem RW.q (h : RW w W g x) : Blk W (w.heap.size + 1) 4 #[.bool false] := h.2.2.1
theorem RW.gr (h : RW w W g x) : w.grownBy W (some g) := h.2.2.2.1
theorem RW.nils' (h : RW w W g x) : ((W.setCell ⟨w.heap.size, 0, none⟩ (.slice none 0 0)).setCell ⟨w.heap.size + 1, 0, none⟩ (.bool false)).cell? ⟨w.heap.size, 0, none⟩ = some (.slice none 0 0) ∧ ((W.setCell ⟨w.heap.size, 0, none⟩ (.slice none 0 0)).setCell ⟨w.heap.size + 1, 0, none⟩ (.bool false)).cell? ⟨w.heap.size + 1, 0, none⟩ = some (.bool false) ∧ w.grownBy ((W.setCell ⟨w.heap.size, 0, none⟩ (.slice none 0 0)).setCell ⟨w.heap.size + 1, 0, none⟩ (.bool false)) (some g) := by
  obtain ⟨h1, h2, h3, h4, h5⟩ := h
  have e1 := (h2.set 0 (.slice none 0 0)).far (p := ⟨w.heap.size + 1, 0, none⟩) (by simp) (.bool false)
  have e2 := (h3.far (p := ⟨w.heap.size, 0, none⟩) (by simp) (.slice none 0 0)).set 0 (.bool false)
  refine ⟨(Blk.cell e1 0).trans rfl, (Blk.cell e2 0).trans rfl, grown_new_set (grown_new_set h4 (Nat.le_refl _) 0 _) (Nat.le_succ _) 0 _⟩
theorem RW.nils (h : RW w W g x) : (((W.alloc (.cells #[] 76)).setCell ⟨w.heap.size, 0, none⟩ (.slice none 0 0)).setCell ⟨w.heap.size + 1, 0, none⟩ (.bool false)).cell? ⟨w.heap.size, 0, none⟩ = some (.slice none 0 0) ∧ (((W.alloc (.cells #[] 76)).setCell ⟨w.heap.size, 0, none⟩ (.slice none 0 0)).setCell ⟨w.heap.size + 1, 0, none⟩ (.bool false)).cell? ⟨w.heap.size + 1, 0, none⟩ = some (.bool false) ∧ w.grownBy (((W.alloc (.cells #[] 76)).setCell ⟨w.heap.size, 0, none⟩ (.slice none 0 0)).setCell ⟨w.heap.size + 1, 0, none⟩ (.bool false)) (some g) :=
  RW.nils' (h.below ((Below.refl _ _).alloc (Nat.le_refl _) _))
theorem RW.rs (h : RW w W g x) {α : Type} {E : El α} {A : Option Addr} {n : Nat} {xs : List α} (hr : RS E w A n xs) (hA : ∀ ad, A = some ad → ad.block ≠ g) : RS E W A n xs :=
  hr.kept h.2.2.2.1 (fun ad e he => by injection he with he; exact hA ad e he)
end

theorem leaves_fin {W : World} {p q : Addr} {x y : Value} (tmps : Array Value) (R : Ending → World → Prop) (h2 : tmps[2]?.getD undef = .pointer (some p)) (h3 : tmps[3]?.getD undef = .pointer (some q)) (y0 : W.cell? p = some x) (y1 : W.cell? q = some y) (hR : R (.returned (.tuple #[x, y])) W) :
    Leaves Try.prog Try.f28 tmps R [] .returning W := by
  simp [Leaves, results, Try.results28, go_sem, h2, h3, y0, y1]
  exact hR
/-- What a panic within batch leaves. -/
def QP (w : World) (g : Nat) : Exit → Act → World → Prop
  | .panic c, a, W => c = [{ v := shortV, recovered := false }] ∧ a.tmps[2]?.getD undef = .pointer (some ⟨w.heap.size, 0, none⟩) ∧ a.tmps[3]?.getD undef = .pointer (some ⟨w.heap.size + 1, 0, none⟩) ∧
      a.defers = [{ target := Target.fn (Fn.func 38) #[.pointer (some ⟨w.heap.size, 0, none⟩), .pointer (some ⟨w.heap.size + 1, 0, none⟩)], args := #[] }] ∧ ∃ x, RW w W g x
  | _, _, _ => False
theorem QP.put {w : World} {g d : Nat} {v : Value} (h2 : d ≠ 2) (h3 : d ≠ 3) : ∀ c a W, QP w g (.panic c) (a.put (some d) v) W → QP w g (.panic c) a W := by
  intro c a W ⟨e1, e2, e3, e4, e5⟩
  refine ⟨e1, ?_, ?_, e4, e5⟩
  · rw [← e2]
    simp only [Act.put]
    rw [Array.getElem?_setIfInBounds_ne h2]
  · rw [← e3]
    simp only [Act.put]
    rw [Array.getElem?_setIfInBounds_ne h3]
theorem RW.word {w W : World} {g : Nat} {x : Value} (S : Nat) (h : RW w W g x) : ∀ H, H = W.heap.size → RS BE (W.alloc (.cells (BE.all (word S)).toArray 5)) (some ⟨H, 0, none⟩) 4 (word S) := fun H hH => by subst hH; exact RS.blk (Blk.new W _ _) rfl rfl
theorem RW.fin {w W : World} {g : Nat} {x : Value} (h : RW w W g x) (v b : Value) :
    (((W.setCell ⟨w.heap.size, 0, none⟩ v).setCell ⟨w.heap.size, 0, none⟩ v).setCell ⟨w.heap.size + 1, 0, none⟩ b).cell? ⟨w.heap.size, 0, none⟩ = some v ∧
    (((W.setCell ⟨w.heap.size, 0, none⟩ v).setCell ⟨w.heap.size, 0, none⟩ v).setCell ⟨w.heap.size + 1, 0, none⟩ b).cell? ⟨w.heap.size + 1, 0, none⟩ = some b ∧
    w.grownBy (((W.setCell ⟨w.heap.size, 0, none⟩ v).setCell ⟨w.heap.size, 0, none⟩ v).setCell ⟨w.heap.size + 1, 0, none⟩ b) (some g) ∧
    Blk (((W.setCell ⟨w.heap.size, 0, none⟩ v).setCell ⟨w.heap.size, 0, none⟩ v).setCell ⟨w.heap.size + 1, 0, none⟩ b) g 59 #[x] := by
  obtain ⟨h1, h2, h3, h4, h5⟩ := h
  have e1 := ((h2.set 0 v).set 0 v).far (p := ⟨w.heap.size + 1, 0, none⟩) (by simp) b
  have e2 := ((h3.far (p := ⟨w.heap.size, 0, none⟩) (by simp) v).far (p := ⟨w.heap.size, 0, none⟩) (by simp) v).set 0 b
  exact ⟨(Blk.cell e1 0).trans rfl, (Blk.cell e2 0).trans rfl, grown_new_set (grown_new_set (grown_new_set h4 (Nat.le_refl _) 0 _) (Nat.le_refl _) 0 _) (Nat.le_succ _) 0 _, ((h1.far (p := ⟨w.heap.size, 0, none⟩) (by simp; omega) v).far (p := ⟨w.heap.size, 0, none⟩) (by simp; omega) v).far (p := ⟨w.heap.size + 1, 0, none⟩) (by simp; omega) b⟩
/-- What batch gives. -/
def RdP (w w' : World) (g n : Nat) (A : Option Addr) (bs : List Nat) (e : Ending) : Prop :=
  match one bs with
  | some (l, m) => ∃ A1 n1 c1 A2 c2, e = .returned (.tuple #[.slice A1 n1 c1, .bool true]) ∧ n1 ≤ c1 ∧ RS EE w' A1 n1 l ∧ Fr w.heap.size A1 ∧ Blk w' g 59 #[.slice A2 (n - m) c2] ∧ n - m ≤ c2 ∧ (∀ w0, RS BE w0 A n bs → RS BE w0 A2 (n - m) (bs.drop m)) ∧ (0 < n - m → ∀ ad, A2 = some ad → ad.block ≠ g)
  | none => ∃ v, e = .returned (.tuple #[v, .bool false])

set_option maxRecDepth 100000 in
set_option maxHeartbeats 8000000 in
theorem rdbatch_any (g : Nat) (A : Option Addr) (n c : Nat) (bs : List Nat) (w : World) (hg : Blk w g 59 #[.slice A n c]) (h : RS BE w A n bs) (hA : 0 < n → ∀ ad, A = some ad → ad.block ≠ g) (hB : Byt bs) (hc : n ≤ c) (hn : n ≤ 1099511627776) :
    Calls Try.prog 28 #[.pointer (some ⟨g, 0, none⟩)] w fun e w' => w.grownBy w' (some g) ∧ RdP w w' g n A bs e := by
  have hmf : ∀ (fn : Fn) (first cap : Array Value) (w : World), (Instr.makeFunc fn first cap).run Try.prog w = .ok (.func fn first cap) w := fun _ _ _ _ => rfl
  have hl := h.len
  have hR0 : RW w ((w.alloc (.cells #[.slice none 0 0] 32)).alloc (.cells #[.bool false] 4)) g (.slice A n c) :=
    ⟨(hg.alloc _).alloc _, (Blk.new w _ _).alloc _, Blk.new' _ _ _ (by simp), grown_of_below (grown_of_below (World.grownBy.refl w _) ((Below.refl _ _).alloc (Nat.le_refl _) _)) ((Below.refl _ _).alloc (Nat.le_refl _) _), hg.lt⟩
  have c0 : ((w.alloc (.cells #[.slice none 0 0] 32)).alloc (.cells #[.bool false] 4)).cell? ⟨g, 0, none⟩ = some (.slice A n c) := (Blk.cell hR0.rd 0).trans rfl
  have hne1 : ¬ w.heap.size = w.heap.size + 1 := by omega
  rcases one_ways bs with ⟨hlen, h1⟩ | ⟨a, c', r, rfl, hw⟩
  · have kt : Hid (∀ w, Blk w g 59 #[.slice A n c] → Calls Try.prog 39 #[.pointer (some ⟨g, 0, none⟩), .int .i64 (2)] w fun e w' => e = .panicked [{ v := shortV, recovered := false }] ∧ w' = w) := Lib.hid fun w h => take_short g A n c 2 w h (by omega)
    have hres : Hid (∀ w' e, RdP w w' g n A bs e ↔ ∃ v, e = .returned (.tuple #[v, .bool false])) := Lib.hid (fun w' e => by unfold RdP; rw [h1])
    clear h1
    go_enter_defers Try.func28, Try.ntmps28
    go_wp2_with fail
    (with_reducible refine (kt.out _ hR0.rd).mono ?_); rintro e w1 ⟨rfl, rfl⟩
    generalize hW : (w.alloc (.cells #[.slice none 0 0] 32)).alloc (.cells #[.bool false] 4) = W at *
    go_wp2_with fail
    refine leaves_cons (f := 38) (args := #[.pointer (some ⟨w.heap.size, 0, none⟩), .pointer (some ⟨w.heap.size + 1, 0, none⟩)]) (by simp) (by simp [go_sem]) ?_
    refine (catch_panicking w.heap.size (w.heap.size + 1) _ _ [] _ ((Blk.cell hR0.p 0).trans rfl) (Blk.frozen hR0.p 0) ((Blk.cell hR0.q 0).trans rfl) (Blk.frozen hR0.q 0) hne1).mono ?_
    rintro e u' w'' ⟨rfl, rfl, rfl⟩
    obtain ⟨y0, y1, hgr⟩ := hR0.nils
    exact leaves_fin _ _ rfl rfl y0 y1 ⟨hgr, (hres.out _ _).2 ⟨_, rfl⟩⟩
  · simp only [List.length_cons] at hl
    replace hA := hA (by omega)
    have kt : Hid (∀ w, Blk w g 59 #[.slice A n c] → Calls Try.prog 39 #[.pointer (some ⟨g, 0, none⟩), .int .i64 (2)] w fun e w' => e = .returned (.slice A (2) c) ∧ w' = w.setCell ⟨g, 0, none⟩ (.slice (if c = (2) then A else A.map (·.add (2))) (n - (2)) (c - (2)))) := Lib.hid fun w h => take_ok g A n c 2 w h (by omega) hc
    obtain ⟨ad, hAd, hadlt⟩ := h.block_lt (by omega)
    have hadg := hA ad hAd
    subst hAd
    have hcut := h.cut (k := 2) (cap := c) (by omega) hc
    rw [show (a :: c' :: r).drop 2 = r from rfl] at hcut
    generalize hA2 : (if c = 2 then some ad else Option.map (fun x => x.add (2 * BE.size)) (some ad)) = A2 at hcut
    have hA2' : (if c = 2 then some ad else (some ad).map (·.add 2)) = A2 := hA2
    have hA2g : ∀ ad, A2 = some ad → ad.block ≠ g := by
      intro bd hbd
      rw [← hA2'] at hbd
      split at hbd
      · injection hbd with hbd; subst hbd; exact hadg
      · injection hbd with hbd; subst hbd; rw [block_of_add]; exact hadg
    rw [hA2'] at kt
    have hb0 := hB.at_ (k := 0) rfl
    have hb1 := hB.at_ (k := 1) rfl

    have q0 : IntKind.i64.wrap (a : Int) = (a : Int) := by rw [IntKind.wrap_i64]; omega
    have q1 : IntKind.i64.wrap (c' : Int) = (c' : Int) := by rw [IntKind.wrap_i64]; omega
    have hcell : ∀ W x, RW w W g x → W.cell? ad = some (.int .u8 a) ∧ W.cell? ⟨ad.block, ad.off + 1, none⟩ = some (.int .u8 c') := fun W x hR => by
      obtain ⟨bd, e1, _, e3⟩ := (hR.rs h hA).2 (by omega)
      injection e1 with e1
      subst e1
      exact ⟨e3 0 _ rfl, e3 1 _ rfl⟩
    rcases hw with ⟨hbad, h1⟩ | ⟨ha, hac, hw⟩
    · have hres : Hid (∀ w' e, RdP w w' g n (some ad) (a :: c' :: r) e ↔ ∃ v, e = .returned (.tuple #[v, .bool false])) := Lib.hid (fun w' e => by unfold RdP; rw [h1])
      clear h1
      have hway : (((a : Int) == 0) = true) ∨ (((a : Int) == 0) = false ∧ ((a : Int) + (c' : Int) != 255) = true) := by
        simp only [beq_iff_eq, beq_eq_false_iff_ne, bne_iff_ne]
        omega
      clear hbad
      rcases hway with p1 | ⟨p1, p2⟩
      all_goals
        go_enter_defers Try.func28, Try.ntmps28
        go_wp2_with fail
        (with_reducible refine (kt.out _ hR0.rd).mono ?_); rintro e w1 ⟨rfl, rfl⟩
        have hR1 := hR0.set (.slice A2 (n - 2) (c - 2))
        generalize hW : ((w.alloc (.cells #[.slice none 0 0] 32)).alloc (.cells #[.bool false] 4)).setCell ⟨g, 0, none⟩ (.slice A2 (n - 2) (c - 2)) = W at *
        obtain ⟨d0, d1⟩ := hcell _ _ hR1
        have x0 := (Blk.cell hR1.p 0).trans rfl
        have x1 := (Blk.cell hR1.q 0).trans rfl
        have f0 := Blk.frozen hR1.p 0
        have f1 := Blk.frozen hR1.q 0
        clear c0
        go_wp2_with fail
        refine leaves_cons (f := 38) (args := #[.pointer (some ⟨w.heap.size, 0, none⟩), .pointer (some ⟨w.heap.size + 1, 0, none⟩)]) (by simp) (by simp [go_sem]) ?_
        refine (catch_idle ⟨w.heap.size, 0, none⟩ ⟨w.heap.size + 1, 0, none⟩ _).mono ?_
        rintro e u' w'' ⟨rfl, rfl, rfl⟩
        obtain ⟨y0, y1, hgr⟩ := hR1.nils'
        exact leaves_fin _ _ rfl rfl y0 y1 ⟨hgr, (hres.out _ _).2 ⟨_, rfl⟩⟩
    have p1 : ((a : Int) == 0) = false := by simp; omega
    have p2 : ((a : Int) + (c' : Int) != 255) = false := by simp; omega
    have p3 : Hid ((10 : Int) * (a : Int) = ((10 * a : Nat) : Int)) := Lib.hid (by omega)
    rcases hw with ⟨hlen, h1⟩ | hw
    · have hres : Hid (∀ w' e, RdP w w' g n (some ad) (a :: c' :: r) e ↔ ∃ v, e = .returned (.tuple #[v, .bool false])) := Lib.hid (fun w' e => by unfold RdP; rw [h1])
      clear h1
      have kt2 : Hid (∀ w, Blk w g 59 #[.slice A2 (n - 2) (c - 2)] → Calls Try.prog 39 #[.pointer (some ⟨g, 0, none⟩), .int .i64 (10 * (a : Int))] w fun e w' => e = .panicked [{ v := shortV, recovered := false }] ∧ w' = w) := Lib.hid fun w h => by rw [p3.out]; exact take_short g A2 (n - 2) (c - 2) (10 * a) w h (by omega)
      go_enter_defers Try.func28, Try.ntmps28
      go_wp2_with fail
      (with_reducible refine (kt.out _ hR0.rd).mono ?_); rintro e w1 ⟨rfl, rfl⟩
      have hR1 := hR0.set (.slice A2 (n - 2) (c - 2))
      generalize hW : ((w.alloc (.cells #[.slice none 0 0] 32)).alloc (.cells #[.bool false] 4)).setCell ⟨g, 0, none⟩ (.slice A2 (n - 2) (c - 2)) = W at *
      obtain ⟨d0, d1⟩ := hcell _ _ hR1
      clear c0
      go_wp2_with fail
      (with_reducible refine (kt2.out _ hR1.rd).mono ?_); rintro e W ⟨rfl, rfl⟩
      go_wp2_with fail
      refine leaves_cons (f := 38) (args := #[.pointer (some ⟨w.heap.size, 0, none⟩), .pointer (some ⟨w.heap.size + 1, 0, none⟩)]) (by simp) (by simp [go_sem]) ?_
      refine (catch_panicking w.heap.size (w.heap.size + 1) _ _ [] _ ((Blk.cell hR1.p 0).trans rfl) (Blk.frozen hR1.p 0) ((Blk.cell hR1.q 0).trans rfl) (Blk.frozen hR1.q 0) hne1).mono ?_
      rintro e u' w'' ⟨rfl, rfl, rfl⟩
      obtain ⟨y0, y1, hgr⟩ := hR1.nils
      exact leaves_fin _ _ rfl rfl y0 y1 ⟨hgr, (hres.out _ _).2 ⟨_, rfl⟩⟩
    have kt2 : Hid (∀ w, Blk w g 59 #[.slice A2 (n - 2) (c - 2)] → Calls Try.prog 39 #[.pointer (some ⟨g, 0, none⟩), .int .i64 (10 * (a : Int))] w fun e w' => e = .returned (.slice A2 (10 * a) (c - 2)) ∧ w' = w.setCell ⟨g, 0, none⟩ (.slice (if (c - 2) = (10 * a) then A2 else A2.map (·.add (10 * a))) ((n - 2) - (10 * a)) ((c - 2) - (10 * a)))) := Lib.hid fun w h => by rw [p3.out]; exact take_ok g A2 (n - 2) (c - 2) (10 * a) w h (by omega) (by omega)
    have hcut2 := hcut.cut (k := 10 * a) (cap := c - 2) (by omega) (by omega)
    generalize hA3 : (if c - 2 = 10 * a then A2 else Option.map (fun x => x.add (10 * a * BE.size)) A2) = A3 at hcut2
    have hA3' : (if c - 2 = 10 * a then A2 else A2.map (·.add (10 * a))) = A3 := by rw [← hA3, show 10 * a * BE.size = 10 * a from Nat.mul_one _]
    have hA3g : ∀ ad, A3 = some ad → ad.block ≠ g := by
      intro bd hbd
      rw [← hA3'] at hbd
      split at hbd
      · exact hA2g bd hbd
      · cases hA2e : A2 with
        | none => rw [hA2e] at hbd; cases hbd
        | some a2 => rw [hA2e] at hbd; injection hbd with hbd; subst hbd; rw [block_of_add]; exact hA2g a2 hA2e
    rw [hA3'] at kt2
    have hwhole := h.head (k := 2 + 10 * a) (by rcases hw with hw | hw <;> omega)
    rw [show (a :: c' :: r).take (2 + 10 * a) = a :: c' :: r.take (10 * a) by rw [show 2 + 10 * a = 10 * a + 1 + 1 by omega]; rfl] at hwhole
    have hbytw : Byt (a :: c' :: r.take (10 * a)) := by
      have := hB.take (2 + 10 * a)
      rwa [show (a :: c' :: r).take (2 + 10 * a) = a :: c' :: r.take (10 * a) by rw [show 2 + 10 * a = 10 * a + 1 + 1 by omega]; rfl] at this
    have ks := Lib.hid fun W h => jsum_any (some ad) (2 + 10 * a) c (a :: c' :: r.take (10 * a)) W h hbytw (by omega)
    have kw := Lib.hid fun W => jword_any (sum (a :: c' :: r.take (10 * a))) W (sum_lt _)
    have j1 : (2 : Int) + 10 * (a : Int) ≤ (c : Int) := by rcases hw with hw | hw <;> omega
    have j2 : (0 : Int) ≤ 2 + 10 * (a : Int) := by omega
    have qa : IntKind.i64.wrap (10 * (a : Int)) = 10 * (a : Int) := by rw [IntKind.wrap_i64]; omega
    have qb : IntKind.i64.wrap (2 + 10 * (a : Int)) = 2 + 10 * (a : Int) := by rw [IntKind.wrap_i64]; omega
    have qc : (2 + 10 * (a : Int)).toNat = 2 + 10 * a := by omega
    generalize hsm : sum (a :: c' :: r.take (10 * a)) = S at *
    rcases hw with ⟨hlen, hlen2, h1⟩ | ⟨hlen, hw⟩
    · have hres : Hid (∀ w' e, RdP w w' g n (some ad) (a :: c' :: r) e ↔ ∃ v, e = .returned (.tuple #[v, .bool false])) := Lib.hid (fun w' e => by unfold RdP; rw [h1])
      clear h1
      have kt3 : Hid (∀ w, Blk w g 59 #[.slice A3 (n - 2 - 10 * a) (c - 2 - 10 * a)] → Calls Try.prog 39 #[.pointer (some ⟨g, 0, none⟩), .int .i64 (4)] w fun e w' => e = .panicked [{ v := shortV, recovered := false }] ∧ w' = w) := Lib.hid fun w h => take_short g A3 (n - 2 - 10 * a) (c - 2 - 10 * a) 4 w h (by omega)
      go_enter_defers Try.func28, Try.ntmps28
      go_wp2_with fail
      (with_reducible refine (kt.out _ hR0.rd).mono ?_); rintro e w1 ⟨rfl, rfl⟩
      have hR1 := hR0.set (.slice A2 (n - 2) (c - 2))
      generalize hW : ((w.alloc (.cells #[.slice none 0 0] 32)).alloc (.cells #[.bool false] 4)).setCell ⟨g, 0, none⟩ (.slice A2 (n - 2) (c - 2)) = W at *
      obtain ⟨d0, d1⟩ := hcell _ _ hR1
      clear c0
      go_wp2_with fail
      (with_reducible refine (kt2.out _ hR1.rd).mono ?_); rintro e w1 ⟨rfl, rfl⟩
      have hR2 := hR1.set (.slice A3 (n - 2 - 10 * a) (c - 2 - 10 * a))
      clear hR1 hR0
      generalize W.setCell ⟨g, 0, none⟩ (.slice A3 (n - 2 - 10 * a) (c - 2 - 10 * a)) = W2 at *
      go_wp2_with fail
      have RC := hR2
      refine Code.wp_mono (Q := QP w g) (fun e a' W' hq => ?_) ?_
      · cases e with
        | panic ch =>
          obtain ⟨rfl, hp2, hp3, hdf, x, RC⟩ := hq
          change Leaves Try.prog Try.f28 a'.tmps _ a'.defers (.panicking _) W'
          rw [hdf]
          refine leaves_cons (f := 38) (args := #[.pointer (some ⟨w.heap.size, 0, none⟩), .pointer (some ⟨w.heap.size + 1, 0, none⟩)]) (by simp) (by simp [go_sem]) ?_
          refine (catch_panicking w.heap.size (w.heap.size + 1) _ _ [] _ ((Blk.cell RC.p 0).trans rfl) (Blk.frozen RC.p 0) ((Blk.cell RC.q 0).trans rfl) (Blk.frozen RC.q 0) hne1).mono ?_
          rintro e u' w'' ⟨rfl, rfl, rfl⟩
          obtain ⟨y0, y1, hgr⟩ := RC.nils
          exact leaves_fin _ _ hp2 hp3 y0 y1 ⟨hgr, (hres.out _ _).2 ⟨_, rfl⟩⟩
        | _ => exact hq.elim
      refine wp_region_any (by kernel_rfl) ?_
      have RC := hR2.drew
      change wpAny _ _ _ _ _ _ _ W2.drew
      generalize W2.drew = W3 at *
      refine wpAny_take (i := 0) (v := ?_) rfl (by kernel_rfl) (by kernel_rfl) (by kernel_rfl) (QP.put (by decide) (by decide)) (Or.inl ⟨by rfl, by (intro w; go_simp; with_reducible rfl)⟩) ?_
      refine wpAny_take (i := 2) (v := ?_) rfl (by kernel_rfl) (by kernel_rfl) (by kernel_rfl) (QP.put (by decide) (by decide)) (Or.inl ⟨by rfl, by (intro w; go_simp; with_reducible rfl)⟩) ?_
      refine wpAny_take (i := 3) (v := ?_) rfl (by kernel_rfl) (by kernel_rfl) (by kernel_rfl) (QP.put (by decide) (by decide)) (Or.inl ⟨by rfl, by (intro w; go_simp; with_reducible rfl)⟩) ?_
      refine wpAny_take (i := 4) (v := ?_) rfl (by kernel_rfl) (by kernel_rfl) (by kernel_rfl) (QP.put (by decide) (by decide)) (Or.inl ⟨by rfl, by (intro w; go_simp; with_reducible rfl)⟩) ?_
      refine wpAny_take (i := 5) (v := ?_) rfl (by kernel_rfl) (by kernel_rfl) (by kernel_rfl) (QP.put (by decide) (by decide)) (Or.inl ⟨by rfl, by (intro w; go_simp; with_reducible rfl)⟩) ?_
      refine wpAny_take (i := 6) (v := ?_) rfl (by kernel_rfl) (by kernel_rfl) (by kernel_rfl) (QP.put (by decide) (by decide)) (Or.inl ⟨by rfl, by (intro w; go_simp; with_reducible rfl)⟩) ?_
      refine wpAny_ready (rs := [1]) (by kernel_rfl) (by simp) ?_
      refine AllReady.cons rfl (fun K hK => ?_) AllReady.nil
      go_simp
      (with_reducible refine (kt3.out _ RC.rd).mono ?_); rintro e w3 ⟨rfl, rfl⟩
      exact ⟨rfl, rfl, rfl, rfl, _, RC⟩
    have kt3 : Hid (∀ w, Blk w g 59 #[.slice A3 (n - 2 - 10 * a) (c - 2 - 10 * a)] → Calls Try.prog 39 #[.pointer (some ⟨g, 0, none⟩), .int .i64 (4)] w fun e w' => e = .returned (.slice A3 (4) (c - 2 - 10 * a)) ∧ w' = w.setCell ⟨g, 0, none⟩ (.slice (if (c - 2 - 10 * a) = (4) then A3 else A3.map (·.add (4))) ((n - 2 - 10 * a) - (4)) ((c - 2 - 10 * a) - (4)))) := Lib.hid fun w h => take_ok g A3 (n - 2 - 10 * a) (c - 2 - 10 * a) 4 w h (by omega) (by omega)
    have hcut3 := hcut2.cut (k := 4) (cap := c - 2 - 10 * a) (by omega) (by omega)
    have hhead3 := hcut2.head (k := 4) (by omega)
    have hheadb := hcut.head (k := 10 * a) (by omega)
    generalize hA4 : (if c - 2 - 10 * a = 4 then A3 else Option.map (fun x => x.add (4 * BE.size)) A3) = A4 at hcut3
    have hA4' : (if c - 2 - 10 * a = 4 then A3 else A3.map (·.add 4)) = A4 := hA4
    have hA4g : ∀ ad, A4 = some ad → ad.block ≠ g := by
      intro bd hbd
      rw [← hA4'] at hbd
      split at hbd
      · exact hA3g bd hbd
      · cases hA3e : A3 with
        | none => rw [hA3e] at hbd; cases hbd
        | some a2 => rw [hA3e] at hbd; injection hbd with hbd; subst hbd; rw [block_of_add]; exact hA3g a2 hA3e
    rw [hA4'] at kt3
    have hcutAll : ∀ w0, RS BE w0 (some ad) n (a :: c' :: r) → RS BE w0 A4 (n - 2 - 10 * a - 4) ((r.drop (10 * a)).drop 4) := fun w0 h0 => by
      have e1 := h0.cut (k := 2) (cap := c) (by omega) hc
      rw [show (a :: c' :: r).drop 2 = r from rfl, hA2] at e1
      have e2 := e1.cut (k := 10 * a) (cap := c - 2) (by omega) (by omega)
      rw [hA3] at e2
      have e3 := e2.cut (k := 4) (cap := c - 2 - 10 * a) (by omega) (by omega)
      rw [hA4] at e3
      exact e3
    replace hcutAll := Lib.hid hcutAll
    generalize hck : (r.drop (10 * a)).take 4 = ck at *
    have kq := fun (B : Option Addr) W h h' => bequal_any A3 B 4 4 (c - 2 - 10 * a) 4 ck (word S) W h h' (by omega) (by omega)
    have hBd : Byt (r.take (10 * a)) := (hB.drop 2).take (10 * a)
    have kd := fun W h => edecode_any A2 (10 * a) (c - 2) (r.take (10 * a)) W h hBd (by omega) (by omega)
    have hs4 := S
    rcases hw with ⟨hne, h1⟩ | ⟨heq, hw⟩
    · have hres : Hid (∀ w' e, RdP w w' g n (some ad) (a :: c' :: r) e ↔ ∃ v, e = .returned (.tuple #[v, .bool false])) := Lib.hid (fun w' e => by unfold RdP; rw [h1])
      rw [decide_eq_false hne] at kq
      replace kq := Lib.hid kq
      clear h1 hne kd hs4
      go_enter_defers Try.func28, Try.ntmps28
      go_wp2_with fail
      (with_reducible refine (kt.out _ hR0.rd).mono ?_); rintro e w1 ⟨rfl, rfl⟩
      have hR1 := hR0.set (.slice A2 (n - 2) (c - 2))
      generalize hW : ((w.alloc (.cells #[.slice none 0 0] 32)).alloc (.cells #[.bool false] 4)).setCell ⟨g, 0, none⟩ (.slice A2 (n - 2) (c - 2)) = W at *
      obtain ⟨d0, d1⟩ := hcell _ _ hR1
      clear c0
      go_wp2_with fail
      (with_reducible refine (kt2.out _ hR1.rd).mono ?_); rintro e w1 ⟨rfl, rfl⟩
      have hR2 := hR1.set (.slice A3 (n - 2 - 10 * a) (c - 2 - 10 * a))
      clear hR1 hR0
      generalize W.setCell ⟨g, 0, none⟩ (.slice A3 (n - 2 - 10 * a) (c - 2 - 10 * a)) = W2 at *
      go_wp2_with fail
      have RC := hR2
      clear hR2 d0 d1
      go_loud (go_region_held3 (fun w' => True) (trivial) ((first
        | (go_at_call 39; (with_reducible refine (kt3.out _ (by first | exact RC.drew.rd | exact RC.rd)).mono ?_); rintro e w3 ⟨rfl, rfl⟩; replace RC := RC.set (.slice A4 (n - 2 - 10 * a - 4) (c - 2 - 10 * a - 4)))
        | (go_at_call 18; (with_reducible refine (ks.out _ (by first | exact RC.drew.rs hwhole hA | exact RC.rs hwhole hA)).mono ?_); rintro e w3 ⟨rfl, rfl⟩)
        | (go_at_call 41; (with_reducible refine (kw.out _).mono ?_); rintro e w3' ⟨rfl, rfl⟩; have hwd := RW.word S RC; replace RC := RC.below ((Below.refl _ _).alloc (Nat.le_refl _) (.cells (BE.all (word S)).toArray 5)))
        | (go_at_call 40; (with_reducible refine (kq.out _ _ (by first | exact RC.drew.rs hhead3 hA3g | exact RC.rs hhead3 hA3g) (by first | exact (hwd _ (by simp)).drew | exact (hwd _ (by simp)))).mono ?_); rintro e w4 ⟨rfl, hh4, hb4⟩; replace RC := RC.drew.below hb4))))
      have x0 := (Blk.cell RC.p 0).trans rfl
      have x1 := (Blk.cell RC.q 0).trans rfl
      have f0 := Blk.frozen RC.p 0
      have f1 := Blk.frozen RC.q 0
      go_wp2_with fail
      refine leaves_cons (f := 38) (args := #[.pointer (some ⟨w.heap.size, 0, none⟩), .pointer (some ⟨w.heap.size + 1, 0, none⟩)]) (by simp) (by simp [go_sem]) ?_
      refine (catch_idle ⟨w.heap.size, 0, none⟩ ⟨w.heap.size + 1, 0, none⟩ _).mono ?_
      rintro e u' w'' ⟨rfl, rfl, rfl⟩
      obtain ⟨y0, y1, hgr⟩ := RC.nils'
      exact leaves_fin _ _ rfl rfl y0 y1 ⟨hgr, (hres.out _ _).2 ⟨_, rfl⟩⟩
    rcases hw with ⟨hd, h1⟩ | ⟨hd, h1⟩
    · have hres : Hid (∀ w' e, RdP w w' g n (some ad) (a :: c' :: r) e ↔ ∃ v, e = .returned (.tuple #[v, .bool false])) := Lib.hid (fun w' e => by unfold RdP; rw [h1])
      rw [decide_eq_true heq] at kq
      replace kq := Lib.hid kq
      have hdb : (decE (r.take (10 * a)) == 0) = false := by simpa using hd
      clear h1 hd hs4
      generalize decE (r.take (10 * a)) = dE at *
      generalize decL (r.take (10 * a)) = dL at *
      replace kd := Lib.hid kd
      go_enter_defers Try.func28, Try.ntmps28
      go_wp2_with fail
      (with_reducible refine (kt.out _ hR0.rd).mono ?_); rintro e w1 ⟨rfl, rfl⟩
      have hR1 := hR0.set (.slice A2 (n - 2) (c - 2))
      generalize hW : ((w.alloc (.cells #[.slice none 0 0] 32)).alloc (.cells #[.bool false] 4)).setCell ⟨g, 0, none⟩ (.slice A2 (n - 2) (c - 2)) = W at *
      obtain ⟨d0, d1⟩ := hcell _ _ hR1
      clear c0
      go_wp2_with fail
      (with_reducible refine (kt2.out _ hR1.rd).mono ?_); rintro e w1 ⟨rfl, rfl⟩
      have hR2 := hR1.set (.slice A3 (n - 2 - 10 * a) (c - 2 - 10 * a))
      clear hR1 hR0
      generalize W.setCell ⟨g, 0, none⟩ (.slice A3 (n - 2 - 10 * a) (c - 2 - 10 * a)) = W2 at *
      go_wp2_with fail
      have RC := hR2
      clear hR2 d0 d1
      go_loud (go_region_held3 (fun w' => True) (trivial) ((first
        | (go_at_call 39; (with_reducible refine (kt3.out _ (by first | exact RC.drew.rd | exact RC.rd)).mono ?_); rintro e w3 ⟨rfl, rfl⟩; replace RC := RC.set (.slice A4 (n - 2 - 10 * a - 4) (c - 2 - 10 * a - 4)))
        | (go_at_call 18; (with_reducible refine (ks.out _ (by first | exact RC.drew.rs hwhole hA | exact RC.rs hwhole hA)).mono ?_); rintro e w3 ⟨rfl, rfl⟩)
        | (go_at_call 41; (with_reducible refine (kw.out _).mono ?_); rintro e w3' ⟨rfl, rfl⟩; have hwd := RW.word S RC; replace RC := RC.below ((Below.refl _ _).alloc (Nat.le_refl _) (.cells (BE.all (word S)).toArray 5)))
        | (go_at_call 40; (with_reducible refine (kq.out _ _ (by first | exact RC.drew.rs hhead3 hA3g | exact RC.rs hhead3 hA3g) (by first | exact (hwd _ (by simp)).drew | exact (hwd _ (by simp)))).mono ?_); rintro e w4 ⟨rfl, hh4, hb4⟩; replace RC := RC.drew.below hb4))))
      have x0 := (Blk.cell RC.p 0).trans rfl
      have x1 := (Blk.cell RC.q 0).trans rfl
      have f0 := Blk.frozen RC.p 0
      have f1 := Blk.frozen RC.q 0
      go_wp2_with fail
      (with_reducible refine (kd.out _ (RC.rs hheadb hA2g)).mono ?_)
      rintro e w5 ⟨A5, n5, c5, rfl, hc5, hr5, hb5, hf5⟩
      replace RC := RC.below hb5
      clear x0 x1 f0 f1
      have x0 := (Blk.cell RC.p 0).trans rfl
      have x1 := (Blk.cell RC.q 0).trans rfl
      have f0 := Blk.frozen RC.p 0
      have f1 := Blk.frozen RC.q 0
      go_wp2_with fail
      refine leaves_cons (f := 38) (args := #[.pointer (some ⟨w.heap.size, 0, none⟩), .pointer (some ⟨w.heap.size + 1, 0, none⟩)]) (by simp) (by simp [go_sem]) ?_
      refine (catch_idle ⟨w.heap.size, 0, none⟩ ⟨w.heap.size + 1, 0, none⟩ _).mono ?_
      rintro e u' w'' ⟨rfl, rfl, rfl⟩
      obtain ⟨y0, y1, hgr, hgb⟩ := RC.fin (.slice A5 n5 c5) (.bool false)
      exact leaves_fin _ _ rfl rfl y0 y1 ⟨hgr, (hres.out _ _).2 ⟨_, rfl⟩⟩
    · have hres : Hid (∀ w' e, RdP w w' g n (some ad) (a :: c' :: r) e ↔ ∃ A1 n1 c1 A2 c2, e = .returned (.tuple #[.slice A1 n1 c1, .bool true]) ∧ n1 ≤ c1 ∧ RS EE w' A1 n1 (decL (r.take (10 * a))) ∧ Fr w.heap.size A1 ∧ Blk w' g 59 #[.slice A2 (n - (6 + 10 * a)) c2] ∧ n - (6 + 10 * a) ≤ c2 ∧ (∀ w0, RS BE w0 (some ad) n (a :: c' :: r) → RS BE w0 A2 (n - (6 + 10 * a)) ((a :: c' :: r).drop (6 + 10 * a))) ∧ (0 < n - (6 + 10 * a) → ∀ ad, A2 = some ad → ad.block ≠ g)) := Lib.hid (fun w' e => by unfold RdP; rw [h1])
      rw [decide_eq_true heq] at kq
      replace kq := Lib.hid kq
      rw [hd] at kd
      clear h1 hd hs4
      have hdrop : (a :: c' :: r).drop (6 + 10 * a) = (r.drop (10 * a)).drop 4 := by rw [show 6 + 10 * a = 10 * a + 4 + 1 + 1 by omega, List.drop_drop]; rfl
      have hnm : n - (6 + 10 * a) = n - 2 - 10 * a - 4 := by omega
      rw [hdrop, hnm] at hres
      replace hdrop := Lib.hid hdrop
      replace hnm := Lib.hid hnm
      generalize decL (r.take (10 * a)) = dL at *
      replace kd := Lib.hid kd
      go_enter_defers Try.func28, Try.ntmps28
      go_wp2_with fail
      (with_reducible refine (kt.out _ hR0.rd).mono ?_); rintro e w1 ⟨rfl, rfl⟩
      have hR1 := hR0.set (.slice A2 (n - 2) (c - 2))
      generalize hW : ((w.alloc (.cells #[.slice none 0 0] 32)).alloc (.cells #[.bool false] 4)).setCell ⟨g, 0, none⟩ (.slice A2 (n - 2) (c - 2)) = W at *
      obtain ⟨d0, d1⟩ := hcell _ _ hR1
      clear c0
      go_wp2_with fail
      (with_reducible refine (kt2.out _ hR1.rd).mono ?_); rintro e w1 ⟨rfl, rfl⟩
      have hR2 := hR1.set (.slice A3 (n - 2 - 10 * a) (c - 2 - 10 * a))
      clear hR1 hR0
      generalize W.setCell ⟨g, 0, none⟩ (.slice A3 (n - 2 - 10 * a) (c - 2 - 10 * a)) = W2 at *
      go_wp2_with fail
      have RC := hR2
      clear hR2 d0 d1
      go_loud (go_region_held3 (fun w' => True) (trivial) ((first
        | (go_at_call 39; (with_reducible refine (kt3.out _ (by first | exact RC.drew.rd | exact RC.rd)).mono ?_); rintro e w3 ⟨rfl, rfl⟩; replace RC := RC.set (.slice A4 (n - 2 - 10 * a - 4) (c - 2 - 10 * a - 4)))
        | (go_at_call 18; (with_reducible refine (ks.out _ (by first | exact RC.drew.rs hwhole hA | exact RC.rs hwhole hA)).mono ?_); rintro e w3 ⟨rfl, rfl⟩)
        | (go_at_call 41; (with_reducible refine (kw.out _).mono ?_); rintro e w3' ⟨rfl, rfl⟩; have hwd := RW.word S RC; replace RC := RC.below ((Below.refl _ _).alloc (Nat.le_refl _) (.cells (BE.all (word S)).toArray 5)))
        | (go_at_call 40; (with_reducible refine (kq.out _ _ (by first | exact RC.drew.rs hhead3 hA3g | exact RC.rs hhead3 hA3g) (by first | exact (hwd _ (by simp)).drew | exact (hwd _ (by simp)))).mono ?_); rintro e w4 ⟨rfl, hh4, hb4⟩; replace RC := RC.drew.below hb4))))
      have x0 := (Blk.cell RC.p 0).trans rfl
      have x1 := (Blk.cell RC.q 0).trans rfl
      have f0 := Blk.frozen RC.p 0
      have f1 := Blk.frozen RC.q 0
      go_wp2_with fail
      have hsz := RC.gr.size
      have hszq := RC.q.lt
      (with_reducible refine (kd.out _ (RC.rs hheadb hA2g)).mono ?_)
      rintro e w5 ⟨A5, n5, c5, rfl, hc5, hr5, hb5, hf5⟩
      replace RC := RC.below hb5
      clear x0 x1 f0 f1
      have x0 := (Blk.cell RC.p 0).trans rfl
      have x1 := (Blk.cell RC.q 0).trans rfl
      have f0 := Blk.frozen RC.p 0
      have f1 := Blk.frozen RC.q 0
      go_wp2_with fail
      refine leaves_cons (f := 38) (args := #[.pointer (some ⟨w.heap.size, 0, none⟩), .pointer (some ⟨w.heap.size + 1, 0, none⟩)]) (by simp) (by simp [go_sem]) ?_
      refine (catch_idle ⟨w.heap.size, 0, none⟩ ⟨w.heap.size + 1, 0, none⟩ _).mono ?_
      rintro e u' w'' ⟨rfl, rfl, rfl⟩
      obtain ⟨y0, y1, hgr, hgb⟩ := RC.fin (.slice A5 n5 c5) (.bool true)
      refine leaves_fin _ _ rfl rfl y0 y1 ⟨hgr, (hres.out _ _).2 ⟨A5, n5, c5, A4, c - 2 - 10 * a - 4, rfl, hc5, ?_, hf5.mono (by omega), hgb, by omega, hcutAll.out, fun _ => hA4g⟩⟩
      have hfar : ∀ ad, A5 = some ad → ad.block ≠ w.heap.size ∧ ad.block ≠ w.heap.size + 1 := fun bd hbd => by have := hf5 bd hbd; omega
      exact ((hr5.far (p := ⟨w.heap.size, 0, none⟩) (fun bd hbd => (hfar bd hbd).1) _).far (p := ⟨w.heap.size, 0, none⟩) (fun bd hbd => (hfar bd hbd).1) _).far (p := ⟨w.heap.size + 1, 0, none⟩) (fun bd hbd => (hfar bd hbd).2) _
end Go.Proofs.Ytbaebeackbciaaa
