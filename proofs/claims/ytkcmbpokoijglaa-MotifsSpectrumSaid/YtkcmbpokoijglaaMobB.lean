/- The reference's Valid of steps. -/
import Derived.Test.YtkcmbpokoijglaaMobA
set_option linter.unusedVariables false
set_option linter.unusedSimpArgs false
namespace CoMot
/-- The number of variables behind one more. -/
def kn (n : Nat) (a : Int) : Nat := if a = n then n + 1 else n
theorem vs_no {n : Nat} {a b : Int} (h : a < 0 ∨ (n : Int) < a ∨ b < 0 ∨ (kn n a : Int) < b ∨ a = b ∨ (0 < n ∧ (n : Int) ≤ a ∧ (n : Int) ≤ b)) : vs n (a, b) = none := by
  unfold vs
  by_cases h0 : n = 0
  · rw [if_pos h0]
    refine if_neg (fun e => ?_)
    injection e with e1 e2
    unfold kn at h
    rw [if_pos (by omega)] at h
    omega
  · rw [if_neg h0]
    unfold kn at h
    by_cases ha : a = n
    · rw [if_pos ha] at h
      refine if_pos ?_
      simp only
      omega
    · rw [if_neg ha] at h
      refine if_pos ?_
      simp only
      omega
theorem vs_yes {n : Nat} {a b : Int} (h1 : 0 ≤ a) (h2 : a ≤ n) (h3 : 0 ≤ b) (h4 : b ≤ (kn n a : Int)) (h5 : a ≠ b) (h6 : 0 < n → a < n ∨ b < n) : vs n (a, b) = some (kn (kn n a) b) := by
  unfold vs
  unfold kn at h4 ⊢
  by_cases h0 : n = 0
  · subst h0
    obtain rfl : a = 0 := by omega
    have hb1 : b = 1 := by simp at h4; omega
    subst hb1
    rfl
  · rw [if_neg h0]
    have h7 := h6 (by omega)
    by_cases ha : a = n
    · rw [if_pos ha] at h4
      rw [if_neg (by simp only; omega), if_pos (.inl ha), if_pos ha, if_neg (by omega)]
    · rw [if_neg ha] at h4
      rw [if_neg (by simp only; omega), if_neg ha]
      congr 1
      simp only
      by_cases hb : b = n
      · rw [if_pos hb, if_pos (.inr hb)]
      · rw [if_neg hb, if_neg (by omega)]
theorem kn_pos {n : Nat} {a b : Int} (h1 : 0 ≤ a) (h2 : a ≤ n) : kn (kn n a) b ≤ n + 2 ∧ kn n a ≤ n + 1 ∧ 0 < kn (kn n a) b ∧ n ≤ kn n a := by
  unfold kn
  by_cases ha : a = n
  · rw [if_pos ha]; split <;> omega
  · rw [if_neg ha]; split <;> omega
theorem vf_take {m : List Step} {k : Nat} {x : Step} (h : m[k]? = some x) : vf (m.take (k + 1)) = (vf (m.take k)).bind fun n => vs n x := by
  rw [List.take_add_one, h]
  exact vf_snoc _ _
theorem vf_dead {m : List Step} {k : Nat} (h : vf (m.take k) = none) : vld m = false := by
  have : vf m = none := by
    have e : m = m.take k ++ m.drop k := (List.take_append_drop k m).symm
    rw [e]
    unfold vf at h ⊢
    rw [List.foldl_append, h]
    generalize m.drop k = r
    induction r with
    | nil => rfl
    | cons x r ih => exact ih
  unfold vld
  rw [this]; simp
end CoMot
namespace Go.Proofs.Ytkcmbpokoijglaa
open Go.RowKit CoMot

attribute [local irreducible] wpQuiet
set_option maxRecDepth 100000 in
set_option maxHeartbeats 8000000 in
theorem rvalid31_any (A : Option Addr) (n c : Nat) (m : List Step) (w : World) (h : RS SE w A n m) (hc : n ≤ c) :
    Calls Try.prog 25 #[.slice A n c] w fun e w' => e = .returned (.bool (vld m)) ∧ Below w.heap.size w w' := by
  have hl := Lib.hid h.len
  by_cases h0 : n < 1
  · have hv : vld m = false := by unfold vld; rw [decide_eq_false (by have := hl.out; omega)]; rfl
    rw [hv]
    clear hv
    obtain rfl : n = 0 := by omega
    go_enter Try.func25, Try.ntmps25
    go_wp2_with fail
    go_ret
    exact ⟨rfl, Below.refl _ _⟩
  by_cases h4 : 4 < n
  · have hv : vld m = false := by unfold vld; rw [decide_eq_false (p := m.length ≤ 4) (by have := hl.out; omega)]; simp
    rw [hv]
    clear hv
    have d1 : decide ((n : Int) < 1) = false := decide_eq_false (by omega)
    have d2 : decide ((4 : Int) < (n : Int)) = true := decide_eq_true (by omega)
    go_enter Try.func25, Try.ntmps25
    go_wp2_with fail
    go_ret
    exact ⟨rfl, Below.refl _ _⟩
  have hF : Hid (∀ k, vf (m.take k) = none → vld m = false) := Lib.hid fun k hk => vf_dead hk
  have hT : Hid ((vf m).isSome = true → vld m = true) := Lib.hid fun hk => by
    unfold vld; rw [hk, decide_eq_true (by have := hl.out; omega), decide_eq_true (by have := hl.out; omega)]; rfl
  have d1 : decide ((n : Int) < 1) = false := decide_eq_false (by omega)
  have d2 : decide ((4 : Int) < (n : Int)) = false := decide_eq_false (by omega)
  generalize hvm : vld m = vm at *
  replace hvm := Lib.hid hvm
  go_enter Try.func25, Try.ntmps25
  go_wp2_with fail
  go_loopw [3, 4] (fun s i wr => ∃ k z : Nat, k ≤ n ∧ i = .int .i64 k ∧ s = .int .i64 z ∧ Hid (vf (m.take k) = some z) ∧ (k = 0 ↔ z = 0) ∧ z ≤ 2 * k ∧ Below w.heap.size w wr) (fun _ i _ => n - (intOf i).toNat)
  case atStart => exact ⟨0, 0, Nat.zero_le _, rfl, rfl, Lib.hid rfl, Iff.rfl, Nat.zero_le _, Below.refl _ _⟩
  case round =>
    obtain ⟨k, z, hk, rfl, rfl, hz, hkz, hz2, hb⟩ := hrel
    by_cases hlt : k < n
    · obtain ⟨ad, a, b, rfl, hbl, hx, q0, q1⟩ := (h.below hb (Nat.le_refl _)).st hlt
      have hvf : Hid (∀ r, vs z (a, b) = r → vf (m.take (k + 1)) = r) := Lib.hid fun r hr => by rw [vf_take hx.out, hz.out]; exact hr
      have hno : Hid (vs z (a, b) = none → vm = false) := Lib.hid fun hr => hF.out (k + 1) (hvf.out _ hr)
      have i2 : (0 : Int) ≤ (k : Int) := Int.natCast_nonneg _
      have i3 : (k : Int) < (n : Int) := by omega
      have q1' : wr.cell? ((ad.add (k * 2)).add 1) = some (.int .i64 b) := by
        rw [← q1]; congr 1
      have hKS : Hid (∀ W', Below wr.heap.size wr W' → W'.cell? (ad.add (k * 2)) = some (.int .i64 a) ∧ W'.cell? ⟨(ad.add (k * 2)).block, (ad.add (k * 2)).off + 1, none⟩ = some (.int .i64 b) ∧ W'.cell? ((ad.add (k * 2)).add 1) = some (.int .i64 b)) := Lib.hid fun W' hs =>
        ⟨(hs.cell (p := ad.add (k * 2)) (by rw [block_of_add]; exact hbl)).trans q0, (hs.cell (p := ⟨(ad.add (k * 2)).block, (ad.add (k * 2)).off + 1, none⟩) (by show (ad.add (k * 2)).block < _; rw [block_of_add]; exact hbl)).trans q1, (hs.cell (p := (ad.add (k * 2)).add 1) (by rw [block_of_add, block_of_add]; exact hbl)).trans q1'⟩
      clear hx hz q0 q1 q1'
      generalize wr = wq at *
      go_wp2_with fail
      go_loopw [3, 6] (fun s j wr => ∃ (v : Nat) (jj : Nat), s = .int .i64 (v : Int) ∧ j = .int .i64 (jj : Int) ∧ ((jj = 0 ∧ v = z) ∨ (jj = 1 ∧ v = kn z a ∧ 0 ≤ a ∧ a ≤ z) ∨ (jj = 2 ∧ v = kn (kn z a) b ∧ 0 ≤ a ∧ a ≤ z ∧ 0 ≤ b ∧ b ≤ (kn z a : Int))) ∧ Below wq.heap.size wq wr) (fun _ j _ => 2 - (intOf j).toNat)
      case atStart => exact ⟨z, 0, rfl, rfl, .inl ⟨rfl, rfl⟩, Below.refl _ _⟩
      case round =>
        obtain ⟨v, jj, rfl, rfl, hj, hb2⟩ := hrel
        obtain ⟨q0, q1, q1'⟩ := hKS.out _ hb2
        have hbb := hb.trans (hb2.mono hb.size)
        rcases hj with ⟨rfl, rfl⟩ | ⟨rfl, hv, g1, g2⟩ | ⟨rfl, hv, g1, g2, g3, g4⟩
        · have hkp : ∀ hh : 0 ≤ a ∧ a ≤ v, kn v a ≤ v + 1 := fun hh => (kn_pos (b := 0) hh.1 hh.2).2.1
          have hvz : v ≤ 100 := by omega
          have hno2 : Hid (∀ hh : a < 0 ∨ (v : Int) < a, vm = false) := Lib.hid fun hh => hno.out (vs_no (by omega))
          have hup : Hid (∀ u : Nat, u = kn v a → 0 ≤ a → a ≤ v → True) := Lib.hid fun _ _ _ _ => trivial
          have w1 : wrap64 ((v : Int) + 1) = ((v + 1 : Nat) : Int) := by unfold wrap64; omega
          by_cases e1 : a < 0
          · have f1 : decide (a < 0) = true := decide_eq_true e1
            have hR : Hid (vm = false) := Lib.hid (hno2.out (.inl e1))
            clear e1 hkp
            go_wp2_with fail
            go_ret
            exact ⟨by rw [hR.out]; rfl, hbb⟩
          have f1 : decide (a < 0) = false := decide_eq_false e1
          by_cases e2 : (v : Int) < a
          · have f2 : decide ((v : Int) < a) = true := decide_eq_true e2
            have hR : Hid (vm = false) := Lib.hid (hno2.out (.inr e2))
            clear e1 e2 hkp
            go_wp2_with fail
            go_ret
            exact ⟨by rw [hR.out]; rfl, hbb⟩
          have f2 : decide ((v : Int) < a) = false := decide_eq_false e2
          by_cases e3 : a = v
          · have f3 : (a == (v : Int)) = true := by rw [e3]; simp
            have hkv : kn v a = v + 1 := by unfold kn; rw [if_pos e3]
            replace hkv := Lib.hid hkv
            replace e3 := Lib.hid e3
            go_wp2_with fail
            go_roundw
            case rel => exact ⟨v + 1, 1, by go_num, by rfl, .inr (.inl ⟨rfl, by rw [hkv.out], by omega, by omega⟩), hb2⟩
            case measure => simp [intOf]
          · have f3 : (a == (v : Int)) = false := by simp [e3]
            have hkv : kn v a = v := by unfold kn; rw [if_neg e3]
            replace hkv := Lib.hid hkv
            replace e3 := Lib.hid e3
            go_wp2_with fail
            go_roundw
            case rel => exact ⟨v, 1, rfl, by rfl, .inr (.inl ⟨rfl, by rw [hkv.out], by omega, by omega⟩), hb2⟩
            case measure => simp [intOf]
        · have hkp := (kn_pos (b := 0) g1 g2).2.1
          have hvz : v ≤ 100 := by omega
          have hno2 : Hid (∀ hh : b < 0 ∨ (v : Int) < b, vm = false) := Lib.hid fun hh => hno.out (vs_no (by rw [hv] at hh; omega))
          replace hv := Lib.hid hv
          have w1 : wrap64 ((v : Int) + 1) = ((v + 1 : Nat) : Int) := by unfold wrap64; omega
          by_cases e1 : b < 0
          · have f1 : decide (b < 0) = true := decide_eq_true e1
            have hR : Hid (vm = false) := Lib.hid (hno2.out (.inl e1))
            clear e1 hkp
            go_wp2_with fail
            go_ret
            exact ⟨by rw [hR.out]; rfl, hbb⟩
          have f1 : decide (b < 0) = false := decide_eq_false e1
          by_cases e2 : (v : Int) < b
          · have f2 : decide ((v : Int) < b) = true := decide_eq_true e2
            have hR : Hid (vm = false) := Lib.hid (hno2.out (.inr e2))
            clear e1 e2 hkp
            go_wp2_with fail
            go_ret
            exact ⟨by rw [hR.out]; rfl, hbb⟩
          have f2 : decide ((v : Int) < b) = false := decide_eq_false e2
          by_cases e3 : b = v
          · have f3 : (b == (v : Int)) = true := by rw [e3]; simp
            have hkv : kn v b = v + 1 := by unfold kn; rw [if_pos e3]
            replace hkv := Lib.hid hkv
            replace e3 := Lib.hid e3
            go_wp2_with fail
            go_roundw
            case rel => exact ⟨v + 1, 2, by go_num, by rfl, .inr (.inr ⟨rfl, by rw [← hv.out, hkv.out], g1, g2, by omega, by rw [← hv.out]; omega⟩), hb2⟩
            case measure => simp [intOf]
          · have f3 : (b == (v : Int)) = false := by simp [e3]
            have hkv : kn v b = v := by unfold kn; rw [if_neg e3]
            replace hkv := Lib.hid hkv
            replace e3 := Lib.hid e3
            go_wp2_with fail
            go_roundw
            case rel => exact ⟨v, 2, rfl, by rfl, .inr (.inr ⟨rfl, by rw [← hv.out, hkv.out], g1, g2, by omega, by rw [← hv.out]; omega⟩), hb2⟩
            case measure => simp [intOf]
        · obtain ⟨hp1, hp2, hp3, hp4⟩ := kn_pos (b := b) g1 g2
          subst hv
          have i4 : (0 : Int) ≤ (k : Int) := Int.natCast_nonneg _
          by_cases e1 : a = b
          · have f1 : (a == b) = true := by rw [e1]; simp
            have hR : Hid (vm = false) := Lib.hid (hno.out (vs_no (.inr (.inr (.inr (.inr (.inl e1)))))))
            replace e1 := Lib.hid e1
            clear hp1 hp2 hp3 hp4
            clear hno hvf hkz
            go_wp2_with fail
            go_quiet (fail)
            go_wp2_with fail
            go_ret
            exact ⟨by rw [hR.out]; rfl, below_drewN hbb _⟩
          have f1 : (a == b) = false := by simp [e1]
          by_cases e2 : k = 0
          · have hvf1 := Lib.hid (hvf.out _ (vs_yes g1 g2 g3 g4 e1 (fun hh => by omega)))
            have f2 : decide ((0 : Int) < (k : Int)) = false := decide_eq_false (by omega)
            have f2' : decide (0 < k) = false := decide_eq_false (by omega)
            replace e1 := Lib.hid e1
            replace e2 := Lib.hid e2
            skip
            clear hno hvf hkz
            go_wp2_with fail
            go_quiet (fail)
            go_wp2_with fail
            go_roundw
            case rel => exact ⟨k + 1, kn (kn z a) b, by omega, by go_num, rfl, hvf1, by omega, by omega, below_drewN hbb _⟩
            case measure => simp [intOf]; omega
          have f2 : decide ((0 : Int) < (k : Int)) = true := decide_eq_true (by omega)
          have f2' : decide (0 < k) = true := decide_eq_true (by omega)
          by_cases e3 : (z : Int) ≤ a
          · have f3 : decide ((z : Int) ≤ a) = true := decide_eq_true e3
            by_cases e4 : (z : Int) ≤ b
            · have f4 : decide ((z : Int) ≤ b) = true := decide_eq_true e4
              have hR : Hid (vm = false) := Lib.hid (hno.out (vs_no (.inr (.inr (.inr (.inr (.inr ⟨by omega, e3, e4⟩)))))))
              replace e1 := Lib.hid e1
              clear hp1 hp2 hp3 hp4
              clear hno hvf hkz
              go_wp2_with fail
              go_quiet (fail)
              go_wp2_with fail
              go_ret
              exact ⟨by rw [hR.out]; rfl, below_drewN hbb _⟩
            · have f4 : decide ((z : Int) ≤ b) = false := decide_eq_false e4
              have hvf1 := Lib.hid (hvf.out _ (vs_yes g1 g2 g3 g4 e1 (fun hh => .inr (by omega))))
              replace e1 := Lib.hid e1
              skip
              clear hno hvf hkz
              go_wp2_with fail
              go_quiet (fail)
              go_wp2_with fail
              go_roundw
              case rel => exact ⟨k + 1, kn (kn z a) b, by omega, by go_num, rfl, hvf1, by omega, by omega, below_drewN hbb _⟩
              case measure => simp [intOf]; omega
          · have f3 : decide ((z : Int) ≤ a) = false := decide_eq_false e3
            have hvf1 := Lib.hid (hvf.out _ (vs_yes g1 g2 g3 g4 e1 (fun hh => .inl (by omega))))
            replace e1 := Lib.hid e1
            skip
            clear hno hvf hkz
            go_wp2_with fail
            go_quiet (fail)
            go_wp2_with fail
            go_roundw
            case rel => exact ⟨k + 1, kn (kn z a) b, by omega, by go_num, rfl, hvf1, by omega, by omega, below_drewN hbb _⟩
            case measure => simp [intOf]; omega
    · obtain rfl : k = n := by omega
      have hR : Hid (vm = true) := Lib.hid (hT.out (by have := hz.out; rw [List.take_of_length_le (by rw [hl.out]; exact Nat.le_refl _)] at this; rw [this]; rfl))
      clear hz
      go_wp2_with fail
      go_ret
      exact ⟨by rw [hR.out]; rfl, hb⟩
end Go.Proofs.Ytkcmbpokoijglaa
