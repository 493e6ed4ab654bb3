/- Common and Over of package wide return the greatest common divisor and the quotient. -/
import Derived.Test.YtfofmblbcpliaaaRatA
set_option linter.unusedVariables false
namespace Go.Proofs.Ytfofmblbcpliaaa
open Go.RowKit CoRat

def C3 (w : World) (g : Nat) (u : Nat) (n : Bool) : Prop := Blk w g 44 #[.int .u64 (hi u), .int .u64 (lo u), .bool n]
theorem C3.cells {w : World} {g u : Nat} {n : Bool} (h : C3 w g u n) : w.cell? ⟨g, 0, none⟩ = some (.int .u64 (hi u)) ∧ w.cell? ⟨g, 1, none⟩ = some (.int .u64 (lo u)) ∧ w.cell? ⟨g, 2, none⟩ = some (.bool n) ∧ w.frozen? ⟨g, 0, none⟩ = false ∧ w.frozen? ⟨g, 1, none⟩ = false ∧ w.frozen? ⟨g, 2, none⟩ = false :=
  ⟨Blk.cell h 0, Blk.cell h 1, Blk.cell h 2, Blk.frozen h 0, Blk.frozen h 1, Blk.frozen h 2⟩
theorem C3.put {w : World} {g u : Nat} {n : Bool} (h : C3 w g u n) (v : Nat) (m : Bool) : C3 (((w.setCell ⟨g, 0, none⟩ (.int .u64 (hi v))).setCell ⟨g, 1, none⟩ (.int .u64 (lo v))).setCell ⟨g, 2, none⟩ (.bool m)) g v m :=
  ((Blk.set h 0 _).set 1 _).set 2 _
theorem C3.far {w : World} {g g' u : Nat} {n : Bool} (h : C3 w g u n) (hne : g ≠ g') (a b c : Value) : C3 (((w.setCell ⟨g', 0, none⟩ a).setCell ⟨g', 1, none⟩ b).setCell ⟨g', 2, none⟩ c) g u n :=
  ((Blk.far h (p := ⟨g', 0, none⟩) hne _).far (p := ⟨g', 1, none⟩) hne _).far (p := ⟨g', 2, none⟩) hne _
theorem put3_below {n : Nat} {w w' : World} (h : Below n w w') {g : Nat} (hg : n ≤ g) (a b c : Value) : Below n w (((w'.setCell ⟨g, 0, none⟩ a).setCell ⟨g, 1, none⟩ b).setCell ⟨g, 2, none⟩ c) :=
  ((h.setCell (p := ⟨g, 0, none⟩) hg _).setCell (p := ⟨g, 1, none⟩) hg _).setCell (p := ⟨g, 2, none⟩) hg _
/-- What the loops of Common hold in memory: both numbers, at two blocks, and a third block for the result. -/
def Two (w wr : World) (u v : Nat) : Prop := C3 wr w.heap.size u false ∧ C3 wr (w.heap.size + 1) v false ∧ C3 wr (w.heap.size + 1 + 1) 0 false ∧ Below w.heap.size w wr
theorem Two.size {w wr : World} {u v : Nat} (h : Two w wr u v) : w.heap.size + 3 ≤ wr.heap.size := by have := Blk.lt h.2.2.1; omega
theorem Two.step {w wr wr' : World} {u v : Nat} (h : Two w wr u v) {n : Nat} (hb : Below n wr wr') (hn : w.heap.size + 3 ≤ n) : Two w wr' u v :=
  ⟨Blk.below h.1 hb (by omega), Blk.below h.2.1 hb (by omega), Blk.below h.2.2.1 hb (by omega), h.2.2.2.trans (hb.mono (by omega))⟩
theorem Two.drew {w wr : World} {u v : Nat} (h : Two w wr u v) : Two w wr.drew u v := ⟨h.1, h.2.1, h.2.2.1, h.2.2.2.drew⟩
theorem Two.cells {w wr : World} {u v : Nat} (h : Two w wr u v) :
    (wr.cell? ⟨w.heap.size, 0, none⟩ = some (.int .u64 (hi u)) ∧ wr.cell? ⟨w.heap.size, 1, none⟩ = some (.int .u64 (lo u)) ∧ wr.cell? ⟨w.heap.size, 2, none⟩ = some (.bool false) ∧
    wr.frozen? ⟨w.heap.size, 0, none⟩ = false ∧ wr.frozen? ⟨w.heap.size, 1, none⟩ = false ∧ wr.frozen? ⟨w.heap.size, 2, none⟩ = false) ∧
    (wr.cell? ⟨w.heap.size + 1, 0, none⟩ = some (.int .u64 (hi v)) ∧ wr.cell? ⟨w.heap.size + 1, 1, none⟩ = some (.int .u64 (lo v)) ∧ wr.cell? ⟨w.heap.size + 1, 2, none⟩ = some (.bool false) ∧
    wr.frozen? ⟨w.heap.size + 1, 0, none⟩ = false ∧ wr.frozen? ⟨w.heap.size + 1, 1, none⟩ = false ∧ wr.frozen? ⟨w.heap.size + 1, 2, none⟩ = false) := ⟨C3.cells h.1, C3.cells h.2.1⟩
theorem Two.put1 {w wr : World} {u v : Nat} (h : Two w wr u v) (u' : Nat) : Two w (((wr.setCell ⟨w.heap.size, 0, none⟩ (.int .u64 (hi u'))).setCell ⟨w.heap.size, 1, none⟩ (.int .u64 (lo u'))).setCell ⟨w.heap.size, 2, none⟩ (.bool false)) u' v :=
  ⟨C3.put h.1 _ _, C3.far h.2.1 (by omega) _ _ _, C3.far h.2.2.1 (by omega) _ _ _, put3_below h.2.2.2 (by omega) _ _ _⟩
theorem Two.put2 {w wr : World} {u v : Nat} (h : Two w wr u v) (v' : Nat) : Two w (((wr.setCell ⟨w.heap.size + 1, 0, none⟩ (.int .u64 (hi v'))).setCell ⟨w.heap.size + 1, 1, none⟩ (.int .u64 (lo v'))).setCell ⟨w.heap.size + 1, 2, none⟩ (.bool false)) u v' :=
  ⟨C3.far h.1 (by omega) _ _ _, C3.put h.2.1 _ _, C3.far h.2.2.1 (by omega) _ _ _, put3_below h.2.2.2 (by omega) _ _ _⟩

/- ### the mathematics of the binary algorithm -/
theorem gcd_both {u v : Nat} (hu : u % 2 = 0) (hv : v % 2 = 0) : Nat.gcd u v = Nat.gcd (u / 2) (v / 2) * 2 := by
  have := Nat.gcd_mul_right (u / 2) 2 (v / 2)
  rw [show u / 2 * 2 = u by omega, show v / 2 * 2 = v by omega] at this
  exact this
theorem gcd_left {u v : Nat} (hu : u % 2 = 0) (hv : v % 2 = 1) : Nat.gcd u v = Nat.gcd (u / 2) v := by
  have e : u = 2 * (u / 2) := by omega
  have hc : Nat.Coprime 2 v := by
    unfold Nat.Coprime
    rw [Nat.gcd_rec, hv]
    rfl
  have h := Nat.Coprime.gcd_mul_left_cancel (u / 2) hc
  rw [← e] at h
  exact h
theorem gcd_right {u v : Nat} (hu : u % 2 = 1) (hv : v % 2 = 0) : Nat.gcd u v = Nat.gcd u (v / 2) := by
  rw [Nat.gcd_comm, gcd_left hv hu, Nat.gcd_comm]
theorem gcd_less {u v : Nat} (h : u ≤ v) : Nat.gcd u v = Nat.gcd u (v - u) := by
  rw [Nat.gcd_sub_self_right h]
theorem pow_lt {a k : Nat} (ha : 0 < a) (h : a * 2 ^ k < B) : k < 128 := by
  rcases Nat.lt_or_ge k 128 with hk | hk
  · exact hk
  · have h1 : 2 ^ 128 ≤ 2 ^ k := Nat.pow_le_pow_right (by omega) hk
    have h2 : 1 * 2 ^ k ≤ a * 2 ^ k := Nat.mul_le_mul_right _ ha
    have h3 : (2 : Nat) ^ 128 = B := by decide
    omega
theorem gcd_B {u v : Nat} (h : 0 < u) (hu : u < B) : Nat.gcd u v < B := Nat.lt_of_le_of_lt (Nat.le_of_dvd h (Nat.gcd_dvd_left u v)) hu

set_option maxHeartbeats 4000000 in
theorem common1 (h l h' l' : Int) (n n' : Bool) (u v : Nat) (w : World) (x : W h l u) (hu : u < B) (y : W h' l' v) (hv : v < B) (u0 : 0 < u) (v0 : 0 < v) :
    Calls Try.prog 49 #[.agg #[.int .u64 h, .int .u64 l, .bool n], .agg #[.int .u64 h', .int .u64 l', .bool n']] w fun e w' => e = .returned (.agg #[.int .u64 (hi (Nat.gcd u v)), .int .u64 (lo (Nat.gcd u v)), .bool false]) ∧ Below w.heap.size w w' := by
  obtain ⟨h0, h1, l0, l1⟩ := x.bd hu
  obtain ⟨a0, a1, b0, b1⟩ := y.bd hv
  have hu' : decide (u = 0) = false := by simp; omega
  have hv' : decide (v = 0) = false := by simp; omega
  have hGB := gcd_B (v := v) u0 hu
  go_enter Try.func49, Try.ntmps49
  go_wp2_with fail
  refine (zero_any _ _ _ u _ x hu).mono ?_; rintro e w1 ⟨rfl, hb⟩; obtain ⟨hc, hf⟩ := bcell hb
  go_wp2_with fail
  refine (zero_any _ _ _ v _ y hv).mono ?_; rintro e w2 ⟨rfl, hb2⟩; obtain ⟨hc2, hf2⟩ := bcell hb2
  have hz := hb.size
  simp at hz
  go_upto_block 0 with fail
  have T : Two w w2 u v := by
    obtain ⟨rfl, rfl⟩ := x
    obtain ⟨rfl, rfl⟩ := y
    exact ⟨((((Blk.new w _ _).alloc _).alloc _).below hb (by simp; omega)).below hb2 (by omega), (((Blk.new' (w.alloc _) _ _ (by simp)).alloc _).below hb (by simp)).below hb2 (by omega),
      ((Blk.new' ((w.alloc _).alloc _) _ _ (by simp)).below hb (by simp)).below hb2 (by omega), ((by go_grown : Below w.heap.size w _).trans (hb.mono (by simp; omega))).trans (hb2.mono (by omega))⟩
  clear hc hf hc2 hf2 hb hb2 hz
  go_cut [5] (fun t wr => ∃ (u' v' k : Nat), t = .int .i64 k ∧ Two w wr u' v' ∧ 0 < u' ∧ 0 < v' ∧ u' < B ∧ v' < B ∧ (u' % 2 = 1 ∨ v' % 2 = 1) ∧ Nat.gcd u v = Nat.gcd u' v' * 2 ^ k)
  case first =>
    go_wp2_with fail
    go_loopg [5] u (fun g t wr => ∃ (u' v' k : Nat), t = .int .i64 k ∧ Two w wr u' v' ∧ 0 < u' ∧ 0 < v' ∧ u' < B ∧ v' < B ∧ u' ≤ g ∧ Nat.gcd u v = Nat.gcd u' v' * 2 ^ k)
    case atStart => exact ⟨u, v, 0, rfl, T, u0, v0, hu, hv, by omega, by simp⟩
    case round =>
      obtain ⟨u', v', k, rfl, T', hu0, hv0, hu1, hv1, hug, hg⟩ := hrel
      have hk : k < 128 := pow_lt (Nat.gcd_pos_of_pos_left v' hu0) (by rw [← hg]; exact hGB)
      have hg' := Lib.hid hg; clear hg T hu' hv'
      obtain ⟨⟨e0, e1, e2, e3, e4, e5⟩, f0, f1, f2, f3, f4, f5⟩ := T'.cells
      by_cases pq : u' % 2 = 0 ∧ v' % 2 = 0
      · obtain ⟨p, q⟩ := pq
        have p' : decide (u' % 2 = 0) = true := by simpa using p
        have q' : decide (v' % 2 = 0) = true := by simpa using q
        have hp := Lib.hid p; clear p
        have hq := Lib.hid q; clear q
        go_wp2_with fail
        refine (even_any _ _ _ u' _ (W.mk u') hu1).mono ?_; rintro e w3 ⟨rfl, hb3⟩
        have T3 := T'.step hb3 T'.size
        clear e0 e1 e2 e3 e4 e5 f0 f1 f2 f3 f4 f5 hb3 T'
        obtain ⟨⟨e0, e1, e2, e3, e4, e5⟩, f0, f1, f2, f3, f4, f5⟩ := T3.cells
        go_wp2_with fail
        refine (even_any _ _ _ v' _ (W.mk v') hv1).mono ?_; rintro e w4 ⟨rfl, hb4⟩
        have T4 := T3.step hb4 T3.size
        clear e0 e1 e2 e3 e4 e5 f0 f1 f2 f3 f4 f5 hb4 T3
        obtain ⟨⟨e0, e1, e2, e3, e4, e5⟩, f0, f1, f2, f3, f4, f5⟩ := T4.cells
        go_wp2_with fail
        go_region_with (first | (go_at_call 60; (with_reducible refine (half_any _ _ _ u' _ (W.mk u') hu1).mono ?_); rintro e w5 ⟨rfl, hb5⟩; have T5 : Two w w5 u' v' := (T4.drew.step hb5 T4.size); obtain ⟨hc5, hf5⟩ := bat hb5 (w.heap.size + 3) T4.size) | (go_at_call 60; (with_reducible refine (half_any _ _ _ v' _ (W.mk v') hv1).mono ?_); rintro e w6 ⟨rfl, hb6⟩; have T6 : Two w w6 u' v' := (T5.step hb6 T5.size); obtain ⟨hc6, hf6⟩ := bat hb6 (w.heap.size + 3) T5.size))
        all_goals go_wp2
        all_goals clear e0 e1 e2 e3 e4 e5 f0 f1 f2 f3 f4 f5 hc5 hc6 hf5 hf6
        all_goals go_roundg (u' / 2)
        all_goals first | (omega; done) | exact ⟨u' / 2, v' / 2, k + 1, by (rw [IntWalk.i64_in _ (by omega)]; go_num), (T6.put1 _).put2 _, by have := hp.out; omega, by have := hq.out; omega, by omega, by omega, by omega, by rw [hg'.out, gcd_both hp.out hq.out, Nat.pow_succ, Nat.mul_assoc, Nat.mul_comm 2]⟩
      · have hodd : u' % 2 = 1 ∨ v' % 2 = 1 := by omega
        replace hodd := Lib.hid hodd
        clear pq
        by_cases p : u' % 2 = 0
        case' pos =>
          have p' : decide (u' % 2 = 0) = true := by simpa using p
          have q' : decide (v' % 2 = 0) = false := by have := hodd.out; simp; omega
          clear p
          go_wp2_with fail
          refine (even_any _ _ _ u' _ (W.mk u') hu1).mono ?_; rintro e w3 ⟨rfl, hb3⟩
          have T3 := T'.step hb3 T'.size
          clear e0 e1 e2 e3 e4 e5 f0 f1 f2 f3 f4 f5 hb3 T'
          obtain ⟨⟨e0, e1, e2, e3, e4, e5⟩, f0, f1, f2, f3, f4, f5⟩ := T3.cells
          go_wp2_with fail
          refine (even_any _ _ _ v' _ (W.mk v') hv1).mono ?_; rintro e w4 ⟨rfl, hb4⟩
          have T4 := T3.step hb4 T3.size
          clear e0 e1 e2 e3 e4 e5 f0 f1 f2 f3 f4 f5 hb4 T3
          go_wp2_with fail
        case' neg =>
          have p' : decide (u' % 2 = 0) = false := by simpa using p
          clear p
          go_wp2_with fail
          refine (even_any _ _ _ u' _ (W.mk u') hu1).mono ?_; rintro e w3 ⟨rfl, hb3⟩
          have T4 := T'.step hb3 T'.size
          clear e0 e1 e2 e3 e4 e5 f0 f1 f2 f3 f4 f5 hb3 T'
          go_wp2_with fail
        all_goals go_meet
        all_goals exact ⟨u', v', k, rfl, T4, hu0, hv0, hu1, hv1, hodd.out, hg'.out⟩
  case rest =>
    obtain ⟨u', v', k, rfl, T4, hu0, hv0, hu1, hv1, hodd, hg⟩ := hcut
    replace hodd := Lib.hid hodd
    have hg' := Lib.hid hg; clear hg
    have hk : k < 128 := pow_lt (Nat.gcd_pos_of_pos_left v' hu0) (by rw [← hg'.out]; exact hGB)
    go_wp2_with fail
    go_loopg [] u' (fun g wr => ∃ (u2 : Nat), Two w wr u2 v' ∧ 0 < u2 ∧ u2 < B ∧ u2 ≤ g ∧ Nat.gcd u' v' = Nat.gcd u2 v' ∧ (u2 % 2 = 1 ∨ v' % 2 = 1))
    case atStart => exact ⟨u', T4, hu0, hu1, by omega, rfl, hodd.out⟩
    case round =>
      obtain ⟨u2, T', hv2, hv3, hug, hh, ho⟩ := hrel
      replace hh := Lib.hid hh
      replace ho := Lib.hid ho
      clear T4
      obtain ⟨⟨e0, e1, e2, e3, e4, e5⟩, f0, f1, f2, f3, f4, f5⟩ := T'.cells
      by_cases p : u2 % 2 = 0
      · have p' : decide (u2 % 2 = 0) = true := by simpa using p
        have hp := Lib.hid p; clear p
        go_wp2_with fail
        refine (even_any _ _ _ u2 _ (W.mk u2) hv3).mono ?_; rintro e w3 ⟨rfl, hb3⟩
        have T3 := T'.step hb3 T'.size
        clear e0 e1 e2 e3 e4 e5 f0 f1 f2 f3 f4 f5 hb3 T'
        obtain ⟨⟨e0, e1, e2, e3, e4, e5⟩, f0, f1, f2, f3, f4, f5⟩ := T3.cells
        go_wp2_with fail
        refine (half_any _ _ _ u2 _ (W.mk u2) hv3).mono ?_; rintro e w4 ⟨rfl, hb4⟩
        have T4 := T3.step hb4 T3.size
        clear e0 e1 e2 e3 e4 e5 f0 f1 f2 f3 f4 f5 hb4 T3
        obtain ⟨⟨e0, e1, e2, e3, e4, e5⟩, f0, f1, f2, f3, f4, f5⟩ := T4.cells
        go_wp2_with fail
        go_roundg (u2 / 2)
        all_goals first | (omega; done) | skip
        have p := hp.out
        have o : v' % 2 = 1 := by have := ho.out; omega
        exact ⟨u2 / 2, T4.put1 _, by omega, by omega, by omega, by rw [hh.out, gcd_left p o], .inr o⟩
      · have p' : decide (u2 % 2 = 0) = false := by simpa using p
        have hp := Lib.hid p; clear p
        go_wp2_with fail
        refine (even_any _ _ _ u2 _ (W.mk u2) hv3).mono ?_; rintro e w3 ⟨rfl, hb3⟩
        have T3 := T'.step hb3 T'.size
        clear e0 e1 e2 e3 e4 e5 f0 f1 f2 f3 f4 f5 hb3 T'
        go_wp2_with fail
        replace hp : Hid (u2 % 2 = 1) := Lib.hid (by have := hp.out; omega)
        clear hodd ho p' hu0 hu1
        replace hh : Hid (Nat.gcd u v = Nat.gcd u2 v' * 2 ^ k) := Lib.hid (by rw [hg'.out, hh.out])
        clear hg'
        go_loopg [] (u2 + v') (fun g wr => ∃ (a b : Nat), Two w wr a b ∧ a % 2 = 1 ∧ a < B ∧ b < B ∧ a + b ≤ g ∧ Nat.gcd u v = Nat.gcd a b * 2 ^ k)
        case atStart => exact ⟨u2, v', T3, hp.out, hv3, hv1, by omega, hh.out⟩
        case round =>
          clear T3 hh hug hv2 hv3 hv0 hv1 hp
          obtain ⟨a, b, T', ha1, ha2, hb1, hug, hh⟩ := hrel
          replace hh := Lib.hid hh
          have ha := Lib.hid ha1
          have ha0 : 0 < a := by omega
          clear ha1
          obtain ⟨⟨e0, e1, e2, e3, e4, e5⟩, f0, f1, f2, f3, f4, f5⟩ := T'.cells
          by_cases hz : b = 0
          · have z' : decide (b = 0) = true := by simpa using hz
            replace hz := Lib.hid hz
            go_wp2_with fail
            refine (zero_any _ _ _ b _ (W.mk b) hb1).mono ?_; rintro e w3 ⟨rfl, hb3⟩
            have T3 := T'.step hb3 T'.size
            clear e0 e1 e2 e3 e4 e5 f0 f1 f2 f3 f4 f5 hb3 T'
            go_wp2_with fail
            replace hh : Hid (Nat.gcd u v = a * 2 ^ k) := Lib.hid (by rw [hh.out, hz.out, Nat.gcd_zero_right])
            clear hz z' hb1 hug ha
            go_loopg [46] k (fun g t wr => ∃ (i c : Nat), t = .int .i64 i ∧ i ≤ k ∧ k - i ≤ g ∧ Two w wr c b ∧ 0 < c ∧ Nat.gcd u v = c * 2 ^ (k - i))
            case atStart => exact ⟨0, a, rfl, by omega, by omega, T3, ha0, hh.out⟩
            case round =>
              clear T3 hh ha0 ha2
              obtain ⟨i, c, rfl, hi, hig, T', hc0, hh⟩ := hrel
              obtain ⟨⟨e0, e1, e2, e3, e4, e5⟩, f0, f1, f2, f3, f4, f5⟩ := T'.cells
              by_cases hik : i < k
              · have hcB : c * 2 < B := by
                  rw [show k - i = (k - i - 1) + 1 by omega, Nat.pow_succ, Nat.mul_comm _ 2, ← Nat.mul_assoc] at hh
                  have h1 : 1 ≤ 2 ^ (k - i - 1) := Nat.one_le_two_pow
                  have h2 : c * 2 * 1 ≤ c * 2 * 2 ^ (k - i - 1) := Nat.mul_le_mul_left _ h1
                  omega
                replace hh := Lib.hid hh
                go_wp2_with fail
                refine (twice_any _ _ _ c _ (W.mk c) hcB).mono ?_; rintro e w3 ⟨rfl, hb3⟩
                have T3 := T'.step hb3 T'.size
                clear e0 e1 e2 e3 e4 e5 f0 f1 f2 f3 f4 f5 hb3 T'
                obtain ⟨⟨e0, e1, e2, e3, e4, e5⟩, f0, f1, f2, f3, f4, f5⟩ := T3.cells
                go_wp2_with fail
                go_roundg (k - (i + 1))
                all_goals first | (omega; done) | skip
                exact ⟨i + 1, c * 2, by go_num, by omega, by omega, T3.put1 _, by omega, by rw [hh.out, Nat.mul_assoc, ← Nat.pow_succ', Nat.succ_eq_add_one, show k - (i + 1) + 1 = k - i by omega]⟩
              · have hik' : i = k := by omega
                have hh : Nat.gcd u v = c := by rw [hh, hik', Nat.sub_self]; simp
                replace hh := Lib.hid hh
                clear hik'
                obtain ⟨g0, g1, g2, g3, g4, g5⟩ := C3.cells T'.2.2.1
                go_wp2_with fail
                refine bodyPost_ret (v := .agg #[.int .u64 (CoRat.hi c), .int .u64 (CoRat.lo c), .bool false]) (by simp [results, Try.results49, go_sem, g0, g1, g2]) rfl ?_
                exact ⟨retNum false (by rw [hh.out]) (by rw [hh.out]), T'.2.2.2.trans (put3_below (Below.refl _ _) (by omega) _ _ _)⟩
          · have z' : decide (b = 0) = false := by simpa using hz
            have hb0 : 0 < b := by omega
            clear hz
            go_wp2_with fail
            refine (zero_any _ _ _ b _ (W.mk b) hb1).mono ?_; rintro e w3 ⟨rfl, hb3⟩
            have T3 := T'.step hb3 T'.size
            clear e0 e1 e2 e3 e4 e5 f0 f1 f2 f3 f4 f5 hb3 T'
            go_wp2_with fail
            go_loopg [] b (fun g wr => ∃ (c : Nat), Two w wr a c ∧ 0 < c ∧ c ≤ b ∧ c ≤ g ∧ Nat.gcd a b = Nat.gcd a c)
            case atStart => exact ⟨b, T3, by omega, by omega, by omega, rfl⟩
            case round =>
              clear T3
              obtain ⟨c, T', hc0, hcb, hcg, hh2⟩ := hrel
              replace hh2 := Lib.hid hh2
              have hcB : c < B := by omega
              obtain ⟨⟨e0, e1, e2, e3, e4, e5⟩, f0, f1, f2, f3, f4, f5⟩ := T'.cells
              by_cases p : c % 2 = 0
              · have p' : decide (c % 2 = 0) = true := by simpa using p
                replace p := Lib.hid p
                go_wp2_with fail
                refine (even_any _ _ _ c _ (W.mk c) hcB).mono ?_; rintro e w3 ⟨rfl, hb3⟩
                have T3 := T'.step hb3 T'.size
                clear e0 e1 e2 e3 e4 e5 f0 f1 f2 f3 f4 f5 hb3 T'
                obtain ⟨⟨e0, e1, e2, e3, e4, e5⟩, f0, f1, f2, f3, f4, f5⟩ := T3.cells
                go_wp2_with fail
                refine (half_any _ _ _ c _ (W.mk c) hcB).mono ?_; rintro e w4 ⟨rfl, hb4⟩
                have T4 := T3.step hb4 T3.size
                clear e0 e1 e2 e3 e4 e5 f0 f1 f2 f3 f4 f5 hb4 T3
                obtain ⟨⟨e0, e1, e2, e3, e4, e5⟩, f0, f1, f2, f3, f4, f5⟩ := T4.cells
                go_wp2_with fail
                have p2 := p.out
                go_roundg (c / 2)
                all_goals first | (omega; done) | skip
                exact ⟨c / 2, T4.put2 _, by omega, by omega, by omega, by rw [hh2.out, gcd_right ha.out p.out]⟩
              · have p' : decide (c % 2 = 0) = false := by simpa using p
                clear p
                go_wp2_with fail
                refine (even_any _ _ _ c _ (W.mk c) hcB).mono ?_; rintro e w3 ⟨rfl, hb3⟩
                have T3 := T'.step hb3 T'.size
                clear e0 e1 e2 e3 e4 e5 f0 f1 f2 f3 f4 f5 hb3 T'
                obtain ⟨⟨e0, e1, e2, e3, e4, e5⟩, f0, f1, f2, f3, f4, f5⟩ := T3.cells
                replace hh : Hid (Nat.gcd u v = Nat.gcd a c * 2 ^ k) := Lib.hid (by rw [hh.out, hh2.out])
                clear hh2
                by_cases q : c < a
                · have q' : decide (c < a) = true := by simpa using q
                  have hca : Hid (c % 2 = 1) := Lib.hid (by have := of_decide_eq_false p'; omega)
                  go_wp2_with fail
                  refine (below_any _ _ _ _ _ _ c a _ (W.mk c) hcB (W.mk a) ha2).mono ?_; rintro e w4 ⟨rfl, hb4⟩
                  have T4 := T3.step hb4 T3.size
                  clear e0 e1 e2 e3 e4 e5 f0 f1 f2 f3 f4 f5 hb4 T3
                  obtain ⟨⟨e0, e1, e2, e3, e4, e5⟩, f0, f1, f2, f3, f4, f5⟩ := T4.cells
                  go_wp2_with fail
                  refine (less_any _ _ _ _ _ _ a c _ (W.mk a) ha2 (W.mk c) (by omega)).mono ?_; rintro e w5 ⟨rfl, hb5⟩
                  have T5 := ((T4.put1 c).put2 a).step hb5 (by simpa using T4.size)
                  clear e0 e1 e2 e3 e4 e5 f0 f1 f2 f3 f4 f5 hb5 T4
                  obtain ⟨⟨e0, e1, e2, e3, e4, e5⟩, f0, f1, f2, f3, f4, f5⟩ := T5.cells
                  go_wp2_with fail
                  go_roundg (c + (a - c))
                  all_goals first | (omega; done) | skip
                  exact ⟨c, a - c, T5.put2 _, hca.out, hcB, by omega, by omega, by rw [hh.out, Nat.gcd_comm, gcd_less (Nat.le_of_lt q)]⟩
                · have q' : decide (c < a) = false := by simpa using q
                  go_wp2_with fail
                  refine (below_any _ _ _ _ _ _ c a _ (W.mk c) hcB (W.mk a) ha2).mono ?_; rintro e w4 ⟨rfl, hb4⟩
                  have T4 := T3.step hb4 T3.size
                  clear e0 e1 e2 e3 e4 e5 f0 f1 f2 f3 f4 f5 hb4 T3
                  obtain ⟨⟨e0, e1, e2, e3, e4, e5⟩, f0, f1, f2, f3, f4, f5⟩ := T4.cells
                  go_wp2_with fail
                  refine (less_any _ _ _ _ _ _ c a _ (W.mk c) hcB (W.mk a) (by omega)).mono ?_; rintro e w5 ⟨rfl, hb5⟩
                  have T5 := T4.step hb5 T4.size
                  clear e0 e1 e2 e3 e4 e5 f0 f1 f2 f3 f4 f5 hb5 T4
                  obtain ⟨⟨e0, e1, e2, e3, e4, e5⟩, f0, f1, f2, f3, f4, f5⟩ := T5.cells
                  go_wp2_with fail
                  go_roundg (a + (c - a))
                  all_goals first | (omega; done) | skip
                  exact ⟨a, c - a, T5.put2 _, ha.out, ha2, by omega, by omega, by rw [hh.out, gcd_less (by omega)]⟩

set_option maxHeartbeats 1000000 in
theorem wcommon_any (h l h' l' : Int) (n n' : Bool) (u v : Nat) (w : World) (x : W h l u) (hu : u < B) (y : W h' l' v) (hv : v < B) :
    Calls Try.prog 49 #[.agg #[.int .u64 h, .int .u64 l, .bool n], .agg #[.int .u64 h', .int .u64 l', .bool n']] w fun e w' => e = .returned (.agg #[.int .u64 (hi (Nat.gcd u v)), .int .u64 (lo (Nat.gcd u v)), .bool false]) ∧ Below w.heap.size w w' := by
  by_cases u0 : 0 < u
  · by_cases v0 : 0 < v
    · exact common1 h l h' l' n n' u v w x hu y hv u0 v0
    · have hu' : decide (u = 0) = false := by simp; omega
      obtain rfl : v = 0 := by omega
      have hv' : decide ((0 : Nat) = 0) = true := rfl
      obtain ⟨rfl, rfl⟩ := x
      go_enter Try.func49, Try.ntmps49
      go_wp2_with fail
      refine (zero_any _ _ _ u _ (W.mk u) hu).mono ?_; rintro e w1 ⟨rfl, hb⟩; obtain ⟨hc, hf⟩ := bat hb (w.heap.size + 3) (by simp)
      go_wp2_with fail
      refine (zero_any _ _ _ 0 _ y hv).mono ?_; rintro e w2 ⟨rfl, hb2⟩; obtain ⟨hc2, hf2⟩ := bat hb2 (w.heap.size + 3) (by have := hb.size; simp at this; omega)
      go_wp2_with fail
      refine bodyPost_ret (v := .agg #[.int .u64 (CoRat.hi u), .int .u64 (CoRat.lo u), .bool false]) (by simp [results, Try.results49, go_sem, hc2, hc]) rfl ?_
      exact ⟨retNum false (by rw [Nat.gcd_zero_right]) (by rw [Nat.gcd_zero_right]), (((by go_grown : Below w.heap.size w _).trans (hb.mono (by simp; omega))).trans (hb2.mono (by have := hb.size; simp at this; omega))).trans (put3_below (Below.refl _ _) (by have := hb.size; have := hb2.size; simp at *; omega) _ _ _)⟩
  · obtain rfl : u = 0 := by omega
    have hu' : decide ((0 : Nat) = 0) = true := rfl
    obtain ⟨rfl, rfl⟩ := y
    go_enter Try.func49, Try.ntmps49
    go_wp2_with fail
    refine (zero_any _ _ _ 0 _ x hu).mono ?_; rintro e w1 ⟨rfl, hb⟩; obtain ⟨hc, hf⟩ := bat hb (w.heap.size + 3) (by simp)
    go_wp2_with fail
    refine bodyPost_ret (v := .agg #[.int .u64 (CoRat.hi v), .int .u64 (CoRat.lo v), .bool false]) (by simp [results, Try.results49, go_sem, hc]) rfl ?_
    exact ⟨retNum false (by rw [Nat.gcd_zero_left]) (by rw [Nat.gcd_zero_left]), ((by go_grown : Below w.heap.size w _).trans (hb.mono (by simp; omega))).trans (put3_below (Below.refl _ _) (by have := hb.size; simp at *; omega) _ _ _)⟩
end Go.Proofs.Ytfofmblbcpliaaa
