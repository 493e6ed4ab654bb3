/- motifs.Check, check and Of. -/
import Derived.Test.YtkcmbpokoijglaaMotC
set_option linter.unusedVariables false
set_option linter.unusedSimpArgs false
namespace Go.Proofs.Ytkcmbpokoijglaa
open Go.RowKit CoMot

theorem RS.tk' {w : World} {A : Option Addr} {n k : Nat} {xs : List Tick} (h : RS TE w A n xs) (hk : k < n) : ∃ ad x y t, A = some ad ∧ ad.block < w.heap.size ∧ xs[k]? = some ⟨x, y, t⟩ ∧ xs.drop k = ⟨x, y, t⟩ :: xs.drop (k + 1) ∧
    w.cell? (ad.add (k * 3)) = some (.int .i64 x) ∧ w.cell? ⟨(ad.add (k * 3)).block, (ad.add (k * 3)).off + 1, none⟩ = some (.int .i64 y) ∧ w.cell? ⟨(ad.add (k * 3)).block, (ad.add (k * 3)).off + 2, none⟩ = some (.int .i64 t) := by
  obtain ⟨ad, x, y, t, h1, h2, h3, h4⟩ := h.tk hk
  refine ⟨ad, x, y, t, h1, h2, h3.out, ?_, h4⟩
  have hl := (List.getElem?_eq_some_iff.1 h3.out).1
  rw [List.drop_eq_getElem_cons hl]
  have := (List.getElem?_eq_some_iff.1 h3.out).2
  rw [this]
theorem cel3 {w : World} {g : Nat} {t : TypeId} {a c d : Value} (h : Blk w g t #[a, c, d]) : w.cell? ⟨g, 0, none⟩ = some a ∧ w.cell? ⟨g, 1, none⟩ = some c ∧ w.cell? ⟨g, 2, none⟩ = some d ∧ g < w.heap.size := ⟨Blk.cell h 0, Blk.cell h 1, Blk.cell h 2, h.lt⟩

set_option maxRecDepth 100000 in
set_option maxHeartbeats 4000000 in
theorem mcheck_any (A : Option Addr) (n c : Nat) (l : List Tick) (w : World) (h : RS TE w A n l) (hn : n ≤ 1099511627776) :
    Calls Try.prog 22 #[.slice A n c] w fun e w' => e = .returned (.int .i64 (chkL l)) ∧ Below w.heap.size w w' := by
  have hl := Lib.hid h.len
  by_cases hbig : 4096 < n
  · have hr : Hid (chkL l = 3) := Lib.hid (by unfold chkL; rw [if_pos (by rw [hl.out]; exact hbig)])
    go_enter Try.func22, Try.ntmps22
    go_wp2_with fail
    go_ret
    exact ⟨by rw [hr.out]; rfl, Below.refl _ _⟩
  have hr : Hid (chkL l = chkT 0 l) := Lib.hid (by unfold chkL; rw [if_neg (by rw [hl.out]; exact hbig)])
  have hb1 : ¬ (4096 : Int) < (n : Int) := by omega
  go_enter Try.func22, Try.ntmps22
  go_wp2_with fail
  go_loopw [3, 11] (fun s i wr => ∃ (k : Nat) (last : Int), k ≤ n ∧ i = .int .i64 k ∧ s = .int .i64 last ∧ Hid (chkL l = chkT last (l.drop k)) ∧ Below w.heap.size w wr) (fun _ i _ => n - (intOf i).toNat)
  case atStart => exact ⟨0, 0, Nat.zero_le _, rfl, rfl, hr, Below.refl _ _⟩
  case round =>
    obtain ⟨k, last, hk, rfl, rfl, hx, hb⟩ := hrel
    have hs := hb.size
    by_cases hlt : k < n
    · obtain ⟨ad, x, y, t, rfl, hbl, hy, hdr, c0, c1, c2⟩ := (h.below hb (Nat.le_refl _)).tk' hlt
      have h1 := hx.out
      rw [hdr] at h1
      have hways : (nd x = false ∧ chkL l = 6) ∨ (nd x = true ∧ nd y = false ∧ chkL l = 6) ∨ (nd x = true ∧ nd y = true ∧ x = y ∧ chkL l = 6) ∨ (nd x = true ∧ nd y = true ∧ ¬ x = y ∧ t < last ∧ chkL l = 9) ∨
          (nd x = true ∧ nd y = true ∧ ¬ x = y ∧ ¬ t < last ∧ 1048576 < t ∧ chkL l = 9) ∨ (nd x = true ∧ nd y = true ∧ ¬ x = y ∧ ¬ t < last ∧ ¬ 1048576 < t ∧ chkL l = chkT t (l.drop (k + 1))) := by
        unfold chkT at h1
        cases e1 : nd x with
        | false => rw [if_pos (.inl e1)] at h1; exact .inl ⟨rfl, h1⟩
        | true =>
          cases e2 : nd y with
          | false => rw [if_pos (.inr (.inl e2))] at h1; exact .inr (.inl ⟨rfl, rfl, h1⟩)
          | true =>
            by_cases e3 : x = y
            · rw [if_pos (.inr (.inr e3))] at h1; exact .inr (.inr (.inl ⟨rfl, rfl, e3, h1⟩))
            · rw [if_neg (by simp only [e1, e2]; simp; exact e3)] at h1
              by_cases e4 : t < last
              · rw [if_pos (.inl e4)] at h1; exact .inr (.inr (.inr (.inl ⟨rfl, rfl, e3, e4, h1⟩)))
              · by_cases e5 : 1048576 < t
                · rw [if_pos (.inr e5)] at h1; exact .inr (.inr (.inr (.inr (.inl ⟨rfl, rfl, e3, e4, e5, h1⟩))))
                · rw [if_neg (by simp only; omega)] at h1; exact .inr (.inr (.inr (.inr (.inr ⟨rfl, rfl, e3, e4, e5, h1⟩))))
      have kx := fun w => mnode_any x w
      have ky := fun w => mnode_any y w
      have i2 : (0 : Int) ≤ (k : Int) := Int.natCast_nonneg _
      have i3 : (k : Int) < (n : Int) := by omega
      have bA := hb.alloc hs (.cells #[.int .i64 x, .int .i64 y, .int .i64 t] 33)
      clear h1 hx hdr hy hr
      rcases hways with ⟨q1, hR⟩ | ⟨q1, q2, hR⟩ | ⟨q1, q2, q3, hR⟩ | ⟨q1, q2, q3, q4, hR⟩ | ⟨q1, q2, q3, q4, q5, hR⟩ | ⟨q1, q2, q3, q4, q5, hR⟩
      · rw [q1] at kx
        replace kx := Lib.hid kx
        replace hR := Lib.hid hR
        go_wp2_with fail
        (with_reducible refine (kx.out _).mono ?_); rintro e w1 ⟨rfl, hQ⟩; obtain rfl := hQ.symm; clear hQ
        go_wp2_with fail
        go_ret
        exact ⟨by rw [hR.out]; rfl, bA⟩
      · rw [q1] at kx
        rw [q2] at ky
        replace kx := Lib.hid kx
        replace ky := Lib.hid ky
        replace hR := Lib.hid hR
        go_wp2_with fail
        (with_reducible refine (kx.out _).mono ?_); rintro e w1 ⟨rfl, hQ⟩; obtain rfl := hQ.symm; clear hQ
        go_wp2_with fail
        (with_reducible refine (ky.out _).mono ?_); rintro e w1 ⟨rfl, hQ⟩; obtain rfl := hQ.symm; clear hQ
        go_wp2_with fail
        go_ret
        exact ⟨by rw [hR.out]; rfl, bA⟩
      · rw [q1] at kx
        rw [q2] at ky
        replace kx := Lib.hid kx
        replace ky := Lib.hid ky
        replace hR := Lib.hid hR
        subst q3
        have q3 : (x == x) = true := by simp
        go_wp2_with fail
        (with_reducible refine (kx.out _).mono ?_); rintro e w1 ⟨rfl, hQ⟩; obtain rfl := hQ.symm; clear hQ
        go_wp2_with fail
        (with_reducible refine (ky.out _).mono ?_); rintro e w1 ⟨rfl, hQ⟩; obtain rfl := hQ.symm; clear hQ
        go_wp2_with fail
        go_ret
        exact ⟨by rw [hR.out]; rfl, bA⟩
      · rw [q1] at kx
        rw [q2] at ky
        replace kx := Lib.hid kx
        replace ky := Lib.hid ky
        replace hR := Lib.hid hR
        have q3' : (x == y) = false := by simp [q3]
        have q4' : decide (t < last) = true := by simp [q4]
        go_wp2_with fail
        (with_reducible refine (kx.out _).mono ?_); rintro e w1 ⟨rfl, hQ⟩; obtain rfl := hQ.symm; clear hQ
        go_wp2_with fail
        (with_reducible refine (ky.out _).mono ?_); rintro e w1 ⟨rfl, hQ⟩; obtain rfl := hQ.symm; clear hQ
        go_wp2_with fail
        go_ret
        exact ⟨by rw [hR.out]; rfl, bA⟩
      · rw [q1] at kx
        rw [q2] at ky
        replace kx := Lib.hid kx
        replace ky := Lib.hid ky
        replace hR := Lib.hid hR
        have q3' : (x == y) = false := by simp [q3]
        have q4' : decide (t < last) = false := by simp; omega
        have q5' : decide (1048576 < t) = true := by simp [q5]
        go_wp2_with fail
        (with_reducible refine (kx.out _).mono ?_); rintro e w1 ⟨rfl, hQ⟩; obtain rfl := hQ.symm; clear hQ
        go_wp2_with fail
        (with_reducible refine (ky.out _).mono ?_); rintro e w1 ⟨rfl, hQ⟩; obtain rfl := hQ.symm; clear hQ
        go_wp2_with fail
        go_ret
        exact ⟨by rw [hR.out]; rfl, bA⟩
      · rw [q1] at kx
        rw [q2] at ky
        replace kx := Lib.hid kx
        replace ky := Lib.hid ky
        replace hR := Lib.hid hR
        have q3' : (x == y) = false := by simp [q3]
        have q4' : decide (t < last) = false := by simp; omega
        have q5' : decide (1048576 < t) = false := by simp; omega
        go_wp2_with fail
        (with_reducible refine (kx.out _).mono ?_); rintro e w1 ⟨rfl, hQ⟩; obtain rfl := hQ.symm; clear hQ
        go_wp2_with fail
        (with_reducible refine (ky.out _).mono ?_); rintro e w1 ⟨rfl, hQ⟩; obtain rfl := hQ.symm; clear hQ
        go_wp2_with fail
        go_roundw
        case rel => exact ⟨k + 1, t, by omega, by go_num, rfl, hR, bA⟩
        case measure => simp [intOf]; omega
    · have i3 : ¬ (k : Int) < (n : Int) := by omega
      have hfin : Hid (chkL l = 0) := Lib.hid (by
        rw [hx.out, List.drop_of_length_le (by rw [hl.out]; omega)]; rfl)
      go_wp2_with fail
      go_ret
      exact ⟨by rw [hfin.out]; rfl, hb⟩
set_option maxRecDepth 100000 in
set_option maxHeartbeats 2000000 in
theorem mcheckA_any (A B : Option Addr) (n c m d : Nat) (l : List Tick) (s : List Step) (v : Int) (w : World) (h : RS TE w A n l) (h' : RS SE w B m s) (hn : n ≤ 1099511627776) (hmd : m ≤ d) :
    Calls Try.prog 40 #[.slice A n c, .slice B m d, .int .i64 v] w fun e w' => e = .returned (.int .i64 (chkA l s v)) ∧ Below w.heap.size w w' := by
  have k1 := Lib.hid fun w h => mcheck_any A n c l w h hn
  have k2 := fun w h => mvalid_any B m d s w h hmd
  have k3 := Lib.hid fun w => mspan_any v w
  by_cases e1 : chkL l = 0
  · cases e2 : vld s with
    | false =>
      have hR : Hid (chkA l s v = 4) := Lib.hid (by unfold chkA; rw [if_neg (by simpa using e1), if_pos e2])
      rw [e2] at k2
      replace k2 := Lib.hid k2
      rw [e1] at k1
      clear e1 e2
      go_enter Try.func40, Try.ntmps40
      go_wp2_with fail
      (with_reducible refine (k1.out _ h).mono ?_); rintro e w1 ⟨rfl, hb1⟩
      go_wp2_with fail
      (with_reducible refine (k2.out _ (h'.below hb1 (Nat.le_refl _))).mono ?_); rintro e w2 ⟨rfl, hb2⟩
      go_wp2_with fail
      go_ret
      exact ⟨by rw [hR.out]; rfl, hb1.trans (hb2.mono hb1.size)⟩
    | true =>
      have hR : Hid (chkA l s v = spn v) := Lib.hid (by unfold chkA; rw [if_neg (by simpa using e1), if_neg (by rw [e2]; simp)])
      rw [e2] at k2
      replace k2 := Lib.hid k2
      rw [e1] at k1
      clear e1 e2
      go_enter Try.func40, Try.ntmps40
      go_wp2_with fail
      (with_reducible refine (k1.out _ h).mono ?_); rintro e w1 ⟨rfl, hb1⟩
      go_wp2_with fail
      (with_reducible refine (k2.out _ (h'.below hb1 (Nat.le_refl _))).mono ?_); rintro e w2 ⟨rfl, hb2⟩
      go_wp2_with fail
      (with_reducible refine (k3.out _).mono ?_); rintro e w3 ⟨rfl, hQ⟩; obtain rfl := hQ.symm; clear hQ
      go_wp2_with fail
      go_ret
      exact ⟨by rw [hR.out]; rfl, hb1.trans (hb2.mono hb1.size)⟩
  · have hR : Hid (chkA l s v = chkL l) := Lib.hid (by unfold chkA; rw [if_pos e1])
    have q : (chkL l != 0) = true := by simpa using e1
    replace e1 := Lib.hid e1
    go_enter Try.func40, Try.ntmps40
    go_wp2_with fail
    (with_reducible refine (k1.out _ h).mono ?_); rintro e w1 ⟨rfl, hb1⟩
    go_wp2_with fail
    go_ret
    exact ⟨by rw [hR.out]; rfl, hb1⟩
end Go.Proofs.Ytkcmbpokoijglaa
