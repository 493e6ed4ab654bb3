/- Printed by merge.py from MocH, MocI, MocJ, MocK, MocL. -/
import Derived.Test.YtkcmbpokoijglaaMocV
import Derived.Test.YtkcmbpokoijglaaMobB
import Derived.Test.YtkcmbpokoijglaaMobF
import Derived.Test.YtkcmbpokoijglaaMoaA
import Derived.Test.YtkcmbpokoijglaaMobA
import Derived.Test.YtkcmbpokoijglaaEveZ
import Derived.Test.YtkcmbpokoijglaaMotX
/- Plain law of the reference's Motifs. -/
set_option linter.unusedVariables false
set_option linter.unusedSimpArgs false
namespace Go.Proofs.Ytkcmbpokoijglaa
open Go.RowKit CoMot
def rOne (M : List Step) (a b : Nat) : List (List Step) := if vld (M ++ [((a : Int), (b : Int))]) = true then [M ++ [((a : Int), (b : Int))]] else []
def rRow (k : Nat) (M : List Step) (a : Nat) : List (List Step) := (List.range (k + 3)).flatMap fun b => rOne M a b
def rGrid (k : Nat) (M : List Step) : List (List Step) := (List.range (k + 3)).flatMap fun a => rRow k M a
def rRnd (k : Nat) (L : List (List Step)) : List (List Step) := L.flatMap fun M => rGrid k M
def rMs : Nat → List (List Step)
  | 0 => [[]]
  | k + 1 => rRnd k (rMs k)
theorem rMs_1 : rMs 1 = motR 1 := by decide +kernel
theorem rMs_2 : rMs 2 = motR 2 := by decide +kernel
theorem rMs_3 : rMs 3 = motR 3 := by decide +kernel
theorem rMs_4 : rMs 4 = motR 4 := by decide +kernel
theorem rMs_eq {s : Nat} (h1 : 1 ≤ s) (h4 : s ≤ 4) : rMs s = motR s := by
  obtain rfl | rfl | rfl | rfl : s = 1 ∨ s = 2 ∨ s = 3 ∨ s = 4 := by omega
  · exact rMs_1
  · exact rMs_2
  · exact rMs_3
  · exact rMs_4
end Go.Proofs.Ytkcmbpokoijglaa

/- The reference's Motifs. -/
set_option linter.unusedVariables false
set_option linter.unusedSimpArgs false
namespace Go.Proofs.Ytkcmbpokoijglaa
open Go.RowKit CoMot
theorem rOne_len (M : List Step) (a b : Nat) : (rOne M a b).length ≤ 1 := by unfold rOne; split <;> simp
theorem rRow_len (k : Nat) (M : List Step) (a j : Nat) : ((List.range j).flatMap fun b => rOne M a b).length ≤ j * 1 := flat_small fun b _ => rOne_len M a b
theorem rGrid_len (k : Nat) (M : List Step) (j : Nat) : ((List.range j).flatMap fun a => rRow k M a).length ≤ j * ((k + 3) * 1) := flat_small fun a _ => rRow_len k M a (k + 3)
/-- What is listed behind so many lists, numbers and numbers. -/
def rSum (k : Nat) (L : List (List Step)) (i : Nat) : List (List Step) := (L.take i).flatMap fun M => rGrid k M
def rSA (k : Nat) (L : List (List Step)) (i : Nat) (M : List Step) (a : Nat) : List (List Step) := rSum k L i ++ (List.range a).flatMap fun a => rRow k M a
def rSB (k : Nat) (L : List (List Step)) (i : Nat) (M : List Step) (a b : Nat) : List (List Step) := rSA k L i M a ++ (List.range b).flatMap fun b => rOne M a b
theorem rSum_len {k : Nat} (hk : k ≤ 3) (L : List (List Step)) (i : Nat) : (rSum k L i).length ≤ L.length * 36 := by
  unfold rSum
  rw [List.length_flatMap]
  have h : ∀ L : List (List Step), (L.map fun M => (rGrid k M).length).sum ≤ L.length * 36 := fun L => by
    induction L with
    | nil => simp
    | cons M L ih =>
      rw [List.map_cons, List.sum_cons, List.length_cons, Nat.add_mul]
      have h1 : (rGrid k M).length ≤ (k + 3) * ((k + 3) * 1) := rGrid_len k M (k + 3)
      have h2 : (k + 3) * ((k + 3) * 1) ≤ 6 * (6 * 1) := Nat.mul_le_mul (by omega) (by omega)
      omega
  have h1 := h (L.take i)
  have h2 : (L.take i).length ≤ L.length := by rw [List.length_take]; omega
  omega
theorem rSB_len {k : Nat} (hk : k ≤ 3) (L : List (List Step)) (i : Nat) (M : List Step) {a b : Nat} (ha : a ≤ 6) (hb : b ≤ 6) : (rSB k L i M a b).length ≤ L.length * 36 + 42 := by
  unfold rSB rSA
  rw [List.length_append, List.length_append]
  have h1 := rSum_len hk L i
  have h2 := rGrid_len k M a
  have h3 := rRow_len k M a b
  have h4 : a * ((k + 3) * 1) ≤ 6 * (6 * 1) := Nat.mul_le_mul ha (by omega)
  omega
theorem rSB_up {k : Nat} {L : List (List Step)} {i : Nat} {M : List Step} {a b : Nat} : rSB k L i M a (b + 1) = rSB k L i M a b ++ rOne M a b := by
  unfold rSB; rw [flat_up, List.append_assoc]
theorem rSB_yes {k : Nat} {L : List (List Step)} {i : Nat} {M : List Step} {a b : Nat} (h : vld (M ++ [((a : Int), (b : Int))]) = true) : rSB k L i M a (b + 1) = rSB k L i M a b ++ [M ++ [((a : Int), (b : Int))]] := by
  rw [rSB_up]; unfold rOne; rw [if_pos h]
theorem rSB_no {k : Nat} {L : List (List Step)} {i : Nat} {M : List Step} {a b : Nat} (h : vld (M ++ [((a : Int), (b : Int))]) = false) : rSB k L i M a (b + 1) = rSB k L i M a b := by
  rw [rSB_up]; unfold rOne; rw [if_neg (by rw [h]; simp), List.append_nil]
theorem rSB_zero {k : Nat} {L : List (List Step)} {i : Nat} {M : List Step} {a : Nat} : rSB k L i M a 0 = rSA k L i M a := List.append_nil _
theorem rSB_all {k : Nat} {L : List (List Step)} {i : Nat} {M : List Step} {a : Nat} : rSB k L i M a (k + 3) = rSA k L i M (a + 1) := by
  unfold rSB rSA; rw [flat_up (fun a => rRow k M a), ← List.append_assoc]; rfl
theorem rSA_zero {k : Nat} {L : List (List Step)} {i : Nat} {M : List Step} : rSA k L i M 0 = rSum k L i := List.append_nil _
theorem rSA_all {k : Nat} {L : List (List Step)} {i : Nat} {M : List Step} (h : L[i]? = some M) : rSA k L i M (k + 3) = rSum k L (i + 1) := by
  unfold rSA rSum
  rw [List.take_add_one, h, List.flatMap_append]
  simp [rGrid]
theorem rSum_zero {k : Nat} {L : List (List Step)} : rSum k L 0 = [] := rfl
theorem rSum_all {k : Nat} {L : List (List Step)} {n : Nat} (h : L.length = n) : rSum k L n = rRnd k L := by
  unfold rSum rRnd; rw [List.take_of_length_le (by omega)]
theorem rMs_small {k : Nat} (h : k ≤ 3) : (rMs k).length ≤ 262144 ∧ ∀ M ∈ rMs k, M.length = k := by
  by_cases h0 : k = 0
  · subst h0; exact ⟨by decide, fun M hM => by rw [List.mem_singleton.1 hM]; rfl⟩
  · rw [rMs_eq (by omega) (by omega)]
    exact ⟨motR_small _, fun M hM => by have := (motR_mem hM).1; omega⟩
attribute [local irreducible] wpQuiet
set_option maxRecDepth 100000 in
set_option maxHeartbeats 8000000 in
theorem rmotifs_any (s : Int) (w : World) : Calls Try.prog 32 #[.int .i64 s] w (RetMs w s) := by
  by_cases h1 : s < 1
  · have e1 : Hid (motR s = []) := Lib.hid (by unfold motR; rw [if_neg (by omega)])
    have e2 : Hid (motE s = 1) := Lib.hid (by unfold motE; rw [if_neg (by omega)])
    go_enter Try.func32, Try.ntmps32
    go_wp2_with fail
    go_ret2
    exact ⟨none, 0, by rw [e1.out, e2.out]; rfl, by rw [e1.out]; exact Nat.le_refl _, by rw [e1.out]; exact RL.none_, by go_grown⟩
  by_cases h2 : 4 < s
  · have e1 : Hid (motR s = []) := Lib.hid (by unfold motR; rw [if_neg (by omega)])
    have e2 : Hid (motE s = 1) := Lib.hid (by unfold motE; rw [if_neg (by omega)])
    go_enter Try.func32, Try.ntmps32
    go_wp2_with fail
    go_ret2
    exact ⟨none, 0, by rw [e1.out, e2.out]; rfl, by rw [e1.out]; exact Nat.le_refl _, by rw [e1.out]; exact RL.none_, by go_grown⟩
  obtain ⟨S, rfl⟩ : ∃ S : Nat, s = S := ⟨s.toNat, by omega⟩
  have e1 : Hid (motR S = rMs S) := Lib.hid (rMs_eq (by omega) (by omega)).symm
  have e2 : Hid (motE S = 0) := Lib.hid (by unfold motE; rw [if_pos (by omega)])
  have kv := Lib.hid fun A n c m w h hc => rvalid31_any A n c m w h hc
  go_enter Try.func32, Try.ntmps32
  go_wp2_with fail
  go_loopw [4, 5] (fun v i wr => ∃ (r : Nat) (A : Option Addr) (n c : Nat), i = .int .i64 r ∧ r ≤ S ∧ v = .slice A n c ∧ n ≤ c ∧ RL SE wr A n (rMs r) ∧ Below w.heap.size w wr) (fun _ i _ => S - (intOf i).toNat)
  case atStart => exact ⟨0, _, 1, 1, rfl, by omega, rfl, Nat.le_refl _, ⟨[.slice none 0 0], reads_one (Blk.new _ _ _), rfl, fun i u ys hu hy => by
    cases i with
    | zero => injection hu with hu; injection hy with hy; subst hu; subst hy; exact ⟨none, 0, 0, rfl, Nat.le_refl _, RS.none_⟩
    | succ i => simp at hu⟩, (Below.refl _ _).alloc (Nat.le_refl _) _⟩
  case round =>
    obtain ⟨r, A, n, c, rfl, hr, rfl, hnc, hL, hb⟩ := hrel
    have hlen := hL.len
    have hsz := hb.size
    by_cases hlt : r < S
    · have i3 : (r : Int) < (S : Int) := by omega
      generalize wr = W0 at *
      obtain ⟨hsm, hel⟩ := rMs_small (show r ≤ 3 by omega)
      have hcap := Lib.hid fun i M a b ha hb => rSB_len (k := r) (by omega) (rMs r) i M (a := a) (b := b) ha hb
      have hall := Lib.hid (rSum_all (k := r) hlen)
      have e5 : IntKind.i64.wrap ((r : Int) + 2) = (r : Int) + 2 := by rw [IntKind.wrap_i64]; omega
      have e5' : wrap64 ((r : Int) + 2) = (r : Int) + 2 := by unfold wrap64; omega
      go_wp2_with fail
      go_loopw [6, 7] (fun v i wx => ∃ (j : Nat), i = .int .i64 j ∧ j ≤ n ∧ OL SE 29 wx W0.heap.size v (rSum r (rMs r) j) ∧ Below W0.heap.size W0 wx) (fun _ i _ => n - (intOf i).toNat)
      case atStart => exact ⟨0, rfl, Nat.zero_le _, OL.nil_, Below.refl _ _⟩
      case round =>
        obtain ⟨j, rfl, hj, ho, hb2⟩ := hrel
        by_cases hlt2 : j < n
        · have i4 : (j : Int) < (n : Int) := by omega
          have i4' : (0 : Int) ≤ (j : Int) := Int.natCast_nonneg _
          obtain ⟨M, hM⟩ : ∃ M, Hid ((rMs r)[j]? = some M) := by
            obtain ⟨_, _, _, _, M, _, _, hM, _⟩ := hL.get hlt2
            exact ⟨M, hM⟩
          have hM1 := hel M (List.mem_of_getElem? hM.out)
          have hnext := Lib.hid (rSA_all (k := r) hM.out)
          rw [← rSA_zero (M := M)] at ho
          go_wp2_with fail
          go_loopw [6, 8] (fun v i wx => ∃ (a : Nat), i = .int .i64 a ∧ a ≤ r + 3 ∧ OL SE 29 wx W0.heap.size v (rSA r (rMs r) j M a) ∧ Below W0.heap.size W0 wx) (fun _ i _ => r + 3 - (intOf i).toNat)
          case atStart => exact ⟨0, rfl, Nat.zero_le _, ho, hb2⟩
          case round =>
            clear ho hb2
            obtain ⟨a, rfl, ha, ho, hb2⟩ := hrel
            by_cases hlt3 : a < r + 3
            · have i5 : (a : Int) ≤ (r : Int) + 2 := by omega
              rw [← rSB_zero] at ho
              go_wp2_with fail
              go_loopw [6, 9] (fun v i wx => ∃ (b : Nat), i = .int .i64 b ∧ b ≤ r + 3 ∧ OL SE 29 wx W0.heap.size v (rSB r (rMs r) j M a b) ∧ Below W0.heap.size W0 wx) (fun _ i _ => r + 3 - (intOf i).toNat)
              case atStart => exact ⟨0, rfl, Nat.zero_le _, ho, hb2⟩
              case round =>
                clear ho hb2
                obtain ⟨b, rfl, hbb, ho, hb2⟩ := hrel
                have hsz2 := hb2.size
                by_cases hlt4 : b < r + 3
                · have i6 : (b : Int) ≤ (r : Int) + 2 := by omega
                  have hcap1 := hcap.out j M a b (by omega) (by omega)
                  obtain ⟨ad, A1, n1, c1, M', rfl, hc1, hM', hn1, hr1, hbl⟩ := (hL.below hb2 (Nat.le_refl _)).get hlt2
                  have hMM : M' = M := by have h1 := hM'.out; rw [hM.out] at h1; injection h1 with h1; exact h1.symm
                  subst hMM
                  have hl1 := hr1.len
                  go_upto_region 18 with (at_builtin; first
                    | (refine wpList_catG tyS rfl _ _ rfl rfl rfl (OS.nil_ (B := wr.heap.size)) hr1 (by unfold maxLen; simp; omega) (by simp; omega) (Nat.le_refl _) ?_; intro v7 w7 ho7 hb7 hg7)
                    | (refine wpList_push1G tyS (y := ((a : Int), (b : Int))) rfl rfl _ _ rfl rfl rfl rfl ho7 (by simp; omega) (by simp; omega) hb7.size ?_; intro v8 w8 ho8 hb8 hg8))
                  obtain ⟨A8, n8, c8, rfl, hn8, hc8, -, hr8, hf8⟩ := ho8.form
                  rw [List.nil_append] at hr8 hn8
                  have hb81 := hb7.trans hb8
                  have ho9 := ho.below hb81 (Nat.le_refl _)
                  have hb29 := hb2.trans (hb81.mono hsz2)
                  have hown := Lib.hid ho.lt
                  have hn8' : 0 < n8 := by rw [hn8]; simp
                  clear hn8 hb7 hb8 hg7 hg8 ho7 ho8 ho hr1 hb2
                  go_wp2_with fail
                  (with_reducible refine (kv.out _ _ _ _ _ hr8 hc8).mono ?_)
                  rintro e w9 ⟨rfl, hb9⟩
                  replace hr8 := hr8.below hb9 (Nat.le_refl _)
                  replace ho9 := ho9.below hb9 (Nat.le_refl _)
                  have hb39 := hb29.trans (hb9.mono hb29.size)
                  have hlt9 := hb39.size
                  cases hv : vld (M' ++ [((a : Int), (b : Int))]) with
                  | false =>
                    have hup := Lib.hid (rSB_no (k := r) (L := rMs r) (i := j) hv)
                    go_wp2_with fail
                    go_roundw
                    case rel => exact ⟨b + 1, by go_num, by omega, by rw [hup.out]; exact ho9, hb39⟩
                    case measure => simp [intOf]; omega
                  | true =>
                    have hup := Lib.hid (rSB_yes (k := r) (L := rMs r) (i := j) hv)
                    have hA8 : Hid (∀ ad, A8 = some ad → 0 < n8 → some ad.block ≠ Value.ownBlock u6 ∧ W0.heap.size ≤ ad.block ∧ ad.block < w9.heap.size) := Lib.hid fun ad he hp => by
                      have h1 := hf8 ad he
                      obtain ⟨ad', he', h2⟩ := hr8.block_lt hp
                      rw [he] at he'; injection he' with he'; subst he'
                      refine ⟨fun h => ?_, by omega, h2⟩
                      have := (hown.out _ h.symm).2
                      omega
                    go_wp2_with (at_builtin; (refine wpList_pushLG (st := 52) Try.underlying52 (by kernel_rfl) rfl _ _ rfl rfl rfl rfl ho9 (by omega) (by omega) hc8 hr8 hA8.out ?_; intro v10 w10 ho10 hb10 hg10 _))
                    go_roundw
                    case rel => exact ⟨b + 1, by go_num, by omega, by rw [hup.out]; exact ho10, hb39.trans hb10⟩
                    case measure => simp [intOf]; omega
                · obtain rfl : b = r + 3 := by omega
                  rw [rSB_all] at ho
                  have i6 : ¬ ((r : Int) + 3 ≤ (r : Int) + 2) := by omega
                  go_wp2_with fail
                  go_roundw
                  case rel => exact ⟨a + 1, by go_num, by omega, ho, hb2⟩
                  case measure => simp [intOf]; omega
            · obtain rfl : a = r + 3 := by omega
              rw [hnext.out] at ho
              have i6 : ¬ ((r : Int) + 3 ≤ (r : Int) + 2) := by omega
              go_wp2_with fail
              go_roundw
              case rel => exact ⟨j + 1, by go_num, by omega, ho, hb2⟩
              case measure => simp [intOf]; omega
        · obtain rfl : j = n := by omega
          rw [hall.out] at ho
          obtain ⟨A2, c2, rfl, hc2, hr2, -⟩ := ho.read
          go_wp2_with fail
          go_roundw
          case rel => exact ⟨r + 1, A2, _, c2, by go_num, by omega, rfl, hc2, hr2, hb.trans (hb2.mono hsz)⟩
          case measure => simp [intOf]; omega
    · obtain rfl : r = S := by omega
      subst hlen
      rw [← e1.out] at hL hnc
      go_wp2_with fail
      go_ret2
      exact ⟨A, c, by rw [e2.out, e1.out]; rfl, hnc, hL, hb⟩
end Go.Proofs.Ytkcmbpokoijglaa

/- The reference's Spectrum. -/
set_option linter.unusedVariables false
set_option linter.unusedSimpArgs false
namespace Go.Proofs.Ytkcmbpokoijglaa
open Go.RowKit CoMot
theorem motR_vld {s : Int} {M : List Step} (h : M ∈ motR s) : vld M = true := by
  obtain ⟨_, _, h1, h4⟩ := motR_mem h
  obtain rfl | rfl | rfl | rfl : s = 1 ∨ s = 2 ∨ s = 3 ∨ s = 4 := by omega
  · exact List.all_eq_true.1 (by decide +kernel : (motR 1).all vld = true) M h
  · exact List.all_eq_true.1 (by decide +kernel : (motR 2).all vld = true) M h
  · exact List.all_eq_true.1 (by decide +kernel : (motR 3).all vld = true) M h
  · exact List.all_eq_true.1 (by decide +kernel : (motR 4).all vld = true) M h
theorem map_take {l : List Tick} {v : Int} {MM : List (List Step)} {k : Nat} {M : List Step} (h : MM[k]? = some M) : (MM.take (k + 1)).map (fun M => (inst l v M).length) = (MM.take k).map (fun M => (inst l v M).length) ++ [(inst l v M).length] := by
  rw [List.take_add_one, h, List.map_append]; rfl
attribute [local irreducible] wpQuiet
set_option maxRecDepth 100000 in
set_option maxHeartbeats 8000000 in
theorem rspectrum_any (A : Option Addr) (n c : Nat) (l : List Tick) (s v : Int) (w : World) (h : RS TE w A n l) (hn : n ≤ 12) (hnc : n ≤ c) :
    Calls Try.prog 33 #[.slice A n c, .int .i64 s, .int .i64 v] w (RetSp w (specL l s v) (specE l s v)) := by
  have kc := rcheck31_any A n c l w h (by omega)
  have km := Lib.hid fun w => rmotifs_any s w
  by_cases e1 : chkL l = 0
  rotate_left
  · have hR : Hid (specE l s v = chkL l) := Lib.hid (by unfold specE; rw [if_pos e1])
    have hL : Hid (specL l s v = []) := Lib.hid (by unfold specL; rw [if_neg (by rw [hR.out]; exact e1)])
    have q : (chkL l != 0) = true := by simpa using e1
    rw [hR.out, hL.out]
    replace e1 := Lib.hid e1
    replace kc := Lib.hid kc
    go_enter Try.func33, Try.ntmps33
    go_wp2_with fail
    (with_reducible refine (kc.out).mono ?_); rintro e w1 ⟨rfl, hb1⟩
    go_wp2_with fail
    go_ret2
    exact ⟨none, 0, 0, rfl, Nat.le_refl _, RS.none_, hb1⟩
  have kc0 := kc
  rw [e1] at kc
  replace kc := Lib.hid kc
  clear kc0
  by_cases e2 : motE s = 0
  rotate_left
  · have hR : Hid (specE l s v = motE s) := Lib.hid (by unfold specE; rw [if_neg (by rw [e1]; simp), if_pos e2])
    have hL : Hid (specL l s v = []) := Lib.hid (by unfold specL; rw [if_neg (by rw [hR.out]; exact e2)])
    have q : (motE s != 0) = true := by simpa using e2
    rw [hR.out, hL.out]
    replace e1 := Lib.hid e1
    replace e2 := Lib.hid e2
    go_enter Try.func33, Try.ntmps33
    go_wp2_with fail
    (with_reducible refine (kc.out).mono ?_); rintro e w1 ⟨rfl, hb1⟩
    go_wp2_with fail
    (with_reducible refine (km.out _).mono ?_); rintro e w2 ⟨A7, c7, rfl, hc7, hr7, hb2⟩
    have hb := hb1.trans (hb2.mono hb1.size)
    go_wp2_with fail
    go_ret2
    exact ⟨none, 0, 0, rfl, Nat.le_refl _, RS.none_, hb⟩
  by_cases e3 : 0 ≤ v ∧ v ≤ 1048576
  rotate_left
  · have hR : Hid (specE l s v = 1) := Lib.hid (by unfold specE spn; rw [if_neg (by rw [e1]; simp), if_neg (by rw [e2]; simp), if_pos (by omega)])
    have hL : Hid (specL l s v = []) := Lib.hid (by unfold specL; rw [if_neg (by rw [hR.out]; omega)])
    rw [hR.out, hL.out]
    replace e1 := Lib.hid e1
    replace e2 := Lib.hid e2
    go_enter Try.func33, Try.ntmps33
    go_wp2_with fail
    (with_reducible refine (kc.out).mono ?_); rintro e w1 ⟨rfl, hb1⟩
    go_wp2_with fail
    (with_reducible refine (km.out _).mono ?_); rintro e w2 ⟨A7, c7, rfl, hc7, hr7, hb2⟩
    rw [e2.out]
    have hb := hb1.trans (hb2.mono hb1.size)
    by_cases hv0 : v < 0
    · go_wp2_with fail
      go_ret2
      exact ⟨none, 0, 0, rfl, Nat.le_refl _, RS.none_, hb⟩
    · have hv1 : 1048576 < v := by omega
      go_wp2_with fail
      go_ret2
      exact ⟨none, 0, 0, rfl, Nat.le_refl _, RS.none_, hb⟩
  have hsp : spn v = 0 := by unfold spn; rw [if_neg (by omega)]
  have hR : Hid (specE l s v = 0) := Lib.hid (by unfold specE; rw [if_neg (by rw [e1]; simp), if_neg (by rw [e2]; simp)]; exact hsp)
  have hL : Hid (specL l s v = (motR s).map fun M => (inst l v M).length) := Lib.hid (by unfold specL; rw [if_pos hR.out])
  rw [hR.out, hL.out]
  have hms := motR_small s
  have hck : Hid (∀ M ∈ motR s, chkA l M v = 0 ∧ cntR l M v = ((inst l v M).length : Int)) := Lib.hid fun M hM => by
    have h0 : chkA l M v = 0 := by
      unfold chkA
      rw [if_neg (by rw [e1]; simp), if_neg (by rw [motR_vld hM]; simp), hsp]
    exact ⟨h0, by unfold cntR; rw [if_pos h0]⟩
  generalize hMM : motR s = MM at *
  replace hMM := Lib.hid hMM
  obtain ⟨v1, v2⟩ := e3
  have hv1 : ¬ v < 0 := by omega
  have hv2 : ¬ 1048576 < v := by omega
  generalize hNN : MM.length = NN at *
  replace hNN := Lib.hid hNN
  replace e1 := Lib.hid e1
  replace e2 := Lib.hid e2
  clear hL hR hsp
  go_enter Try.func33, Try.ntmps33
  go_wp2_with fail
  (with_reducible refine (kc.out).mono ?_); rintro e w1 ⟨rfl, hb1⟩
  go_wp2_with fail
  (with_reducible refine (km.out _).mono ?_); rintro e w2 ⟨A7, c7, rfl, hc7, hr7, hb2⟩
  rw [e2.out]
  rw [hMM.out] at hr7 hc7 ⊢
  rw [hNN.out] at hr7 hc7 ⊢
  have hb := hb1.trans (hb2.mono hb1.size)
  have h2 := h.below hb (Nat.le_refl _)
  clear hb1 hb2 h
  go_wp2_with fail
  go_loopw [11, 12] (fun o i wr => ∃ (k : Nat), i = .int .i64 k ∧ k ≤ NN ∧ OS NE 3 wr w2.heap.size o ((MM.take k).map fun M => (inst l v M).length) ∧ Below w2.heap.size w2 wr) (fun _ i _ => NN - (intOf i).toNat)
  case atStart => exact ⟨0, rfl, Nat.zero_le _, OS.nil_, Below.refl _ _⟩
  case round =>
    obtain ⟨k, rfl, hk, ho, hb3⟩ := hrel
    by_cases hlt : k < NN
    · have i3 : (k : Int) < (NN : Int) := by omega
      have i2 : (0 : Int) ≤ (k : Int) := Int.natCast_nonneg _
      obtain ⟨ad, A1, n1, c1, M, rfl, hcx, hM, hn1, hr1, hbl⟩ := (hr7.below hb3 (Nat.le_refl _)).get hlt
      obtain ⟨q1, q2⟩ := hck.out M (List.mem_of_getElem? hM.out)
      have hup := Lib.hid (map_take (l := l) (v := v) hM.out)
      have kcnt := rcount_any A A1 n c n1 c1 l M v wr (h2.below hb3 (Nat.le_refl _)) hr1 hn hn1
      rw [q1, q2] at kcnt
      replace kcnt := Lib.hid kcnt
      clear q1 q2 hr1
      have hlen : ((MM.take k).map fun M => (inst l v M).length).length ≤ 262144 := by rw [List.length_map, List.length_take]; omega
      go_wp2_with fail
      (with_reducible refine (kcnt.out).mono ?_); rintro e w4 ⟨rfl, hb4⟩
      have ho4 := ho.below hb4 (Nat.le_refl _)
      have hb5 := hb3.trans (hb4.mono hb3.size)
      go_wp2_with (at_builtin; (refine wpList_push1G tyN (y := (inst l v M).length) rfl rfl _ _ rfl rfl rfl rfl ho4 (by omega) (by omega) hb5.size ?_); intro v6 w6 ho6 hb6 hg6)
      go_roundw
      case rel => exact ⟨k + 1, by go_num, by omega, by rw [hup.out]; exact ho6, hb5.trans hb6⟩
      case measure => simp [intOf]; omega
    · obtain rfl : k = NN := by omega
      rw [List.take_of_length_le (by rw [hNN.out]; exact Nat.le_refl _)] at ho
      obtain ⟨A4, n4, c4, rfl, hn4, hc4, -, hr4, hf4⟩ := ho.form
      go_wp2_with fail
      go_ret2
      exact ⟨A4, n4, c4, rfl, hc4, hr4, hb.trans (hb3.mono hb.size)⟩
end Go.Proofs.Ytkcmbpokoijglaa

/- motifs.Ticks and the reference's. -/
set_option linter.unusedVariables false
set_option linter.unusedSimpArgs false
namespace Go.Proofs.Ytkcmbpokoijglaa
open Go.RowKit CoMot CoEv
/-- The ticks of these events. -/
def tkL (xs : List Ev) : List Tick := xs.flatMap fun e => if e.k = 1 then [⟨e.u, e.v, e.t⟩] else []
def tkE (xs : List Ev) : Int := if CoEv.first xs ≠ 0 then CoEv.first xs else chkL (tkL xs)
def tkR (xs : List Ev) : List Tick := if tkE xs = 0 then tkL xs else []
theorem tkL_yes {xs : List Ev} {k : Nat} {e : Ev} (h : xs[k]? = some e) (h1 : e.k = 1) : tkL (xs.take (k + 1)) = tkL (xs.take k) ++ [⟨e.u, e.v, e.t⟩] := by
  unfold tkL; rw [List.take_add_one, h, List.flatMap_append]; simp [h1]
theorem tkL_no {xs : List Ev} {k : Nat} {e : Ev} (h : xs[k]? = some e) (h1 : ¬ e.k = 1) : tkL (xs.take (k + 1)) = tkL (xs.take k) := by
  unfold tkL; rw [List.take_add_one, h, List.flatMap_append]; simp [h1]
theorem tkL_len (xs : List Ev) : (tkL xs).length ≤ xs.length := by
  unfold tkL
  induction xs with
  | nil => simp
  | cons e r ih =>
    rw [List.flatMap_cons, List.length_append, List.length_cons]
    have h1 : (if e.k = 1 then [(⟨e.u, e.v, e.t⟩ : Tick)] else []).length ≤ 1 := by split <;> simp
    omega
theorem tkL_take (xs : List Ev) (k : Nat) : (tkL (xs.take k)).length ≤ k := by
  have h1 := tkL_len (xs.take k)
  rw [List.length_take] at h1
  omega
def RetTs (w : World) (xs : List Ev) (e : Ending) (w' : World) : Prop := ∃ A n c, e = .returned (.tuple #[.slice A n c, .int .i64 (tkE xs)]) ∧ n ≤ c ∧ RS TE w' A n (tkR xs) ∧ Below w.heap.size w w'
theorem RetTs.bad {w w' : World} {xs : List Ev} {C : Int} (hE : tkE xs = C) (hC : C ≠ 0) (hb : Below w.heap.size w w') : RetTs w xs (.returned (.tuple #[.slice none 0 0, .int .i64 C])) w' :=
  ⟨none, 0, 0, by rw [hE], Nat.le_refl _, by unfold tkR; rw [if_neg (by rw [hE]; exact hC)]; exact RS.none_, hb⟩
theorem tkE_first {xs : List Ev} {C : Int} (h : CoEv.first xs = C) (hC : C ≠ 0) : tkE xs = C := by unfold tkE; rw [if_pos (by rw [h]; exact hC), h]
theorem tkE_chk {xs : List Ev} {C : Int} (h : CoEv.first xs = 0) (h2 : chkL (tkL xs) = C) : tkE xs = C := by unfold tkE; rw [if_neg (by rw [h]; simp), h2]

set_option maxRecDepth 100000 in
set_option maxHeartbeats 4000000 in
theorem mticks_any (A : Option Addr) (n c : Nat) (xs : List Ev) (w : World) (h : RS EE w A n xs) (hn : n ≤ 1000) :
    Calls Try.prog 36 #[.slice A n c] w (RetTs w xs) := by
  have hl := Lib.hid h.len
  have kc := Lib.hid fun A n c l w h hn => mcheck_any A n c l w h hn
  go_enter Try.func36, Try.ntmps36
  go_wp2_with fail
  go_loopw [4, 11] (fun o i wr => ∃ k : Nat, k ≤ n ∧ i = .int .i64 k ∧ OS TE 33 wr w.heap.size o (tkL (xs.take k)) ∧ Hid (CoEv.first (xs.take k) = 0) ∧ Below w.heap.size w wr) (fun _ i _ => n - (intOf i).toNat)
  case atStart => exact ⟨0, Nat.zero_le _, rfl, OS.nil_, Lib.hid rfl, Below.refl _ _⟩
  case round =>
    obtain ⟨k, hk, rfl, ho, hx, hb⟩ := hrel
    by_cases hlt : k < n
    · obtain ⟨ad, e, rfl, hbl, hy, c0, c1, c2, c3, c4, c5, c6⟩ := (RS.below h hb (Nat.le_refl _)).ev hlt
      have ke := fun w => echeck_any e w
      have h1 := first_take hx.out hy.out
      have h2 := first_stop hx.out hy.out
      have hs := hb.size
      have hyes := Lib.hid fun h => tkL_yes (e := e) hy.out h
      have hno := Lib.hid fun h => tkL_no (e := e) hy.out h
      have hcap := tkL_take xs k
      obtain ⟨k', t, u, v, ww, l, s⟩ := e
      simp only at c0 c1 c2 c3 c4 c5 c6 hyes hno
      rw [show evV ⟨k', t, u, v, ww, l, s⟩ = .agg #[.int .i64 k', .int .i64 t, .int .i64 u, .int .i64 v, .int .i64 ww, .int .i64 l, .int .i64 s] from rfl] at ke
      generalize chk ⟨k', t, u, v, ww, l, s⟩ = C at *
      have hE := Blk.new wr 90 #[.int .i64 k', .int .i64 t, .int .i64 u, .int .i64 v, .int .i64 ww, .int .i64 l, .int .i64 s]
      have hbA := hb.alloc hs (.cells #[.int .i64 k', .int .i64 t, .int .i64 u, .int .i64 v, .int .i64 ww, .int .i64 l, .int .i64 s] 90)
      have hoA := ho.alloc (.cells #[.int .i64 k', .int .i64 t, .int .i64 u, .int .i64 v, .int .i64 ww, .int .i64 l, .int .i64 s] 90)
      replace ke := Lib.hid ke
      by_cases hC : C = 0
      · subst hC
        replace h1 := Lib.hid h1
        clear h2 hy hx
        go_wp2_with fail
        (with_reducible refine (ke.out _).mono ?_)
        rintro r w1 ⟨rfl, hb2⟩
        have hb3 := hbA.trans (hb2.mono hbA.size)
        have ho3 := hoA.below hb2 (Nat.le_refl _)
        have hE3 := hE.below hb2 hE.lt
        have z0 := Blk.cell hE3 0
        have z1 := Blk.cell hE3 1
        have z2 := Blk.cell hE3 2
        have z3 := Blk.cell hE3 3
        simp at z0 z1 z2 z3
        clear hb2 hbA hoA hE hE3 ho
        by_cases hk1 : k' = 1
        · have d1 : (k' == 1) = true := by simpa using hk1
          have hup := Lib.hid (hyes.out hk1)
          replace hk1 := Lib.hid hk1
          go_wp2_with (at_builtin; (refine wpList_push1G tyT (y := ⟨u, v, t⟩) rfl rfl _ _ rfl rfl rfl rfl ho3 (by omega) (by omega) hb3.size ?_); intro v6 w6 ho6 hb6 hg6)
          go_roundw
          case rel => exact ⟨k + 1, by omega, by go_num, by rw [hup.out]; exact ho6, h1, hb3.trans hb6⟩
          case measure => simp [intOf]; omega
        · have d1 : (k' == 1) = false := by simpa using hk1
          have hup := Lib.hid (hno.out hk1)
          replace hk1 := Lib.hid hk1
          go_wp2_with fail
          go_roundw
          case rel => exact ⟨k + 1, by omega, by go_num, by rw [hup.out]; exact ho3, h1, hb3⟩
          case measure => simp [intOf]; omega
      · have h2' := Lib.hid (h2 hC)
        have hCb : (C != 0) = true := by simpa using hC
        have hC0 := Lib.hid hC
        clear h1 h2 hy hx hC
        go_wp2_with fail
        (with_reducible refine (ke.out _).mono ?_)
        rintro r w1 ⟨rfl, hb2⟩
        have hb3 := hbA.trans (hb2.mono hbA.size)
        go_wp2_with fail
        go_ret2
        exact RetTs.bad (tkE_first h2'.out hC0.out) hC0.out hb3
    · obtain rfl : k = n := by omega
      have hf : Hid (CoEv.first xs = 0) := Lib.hid (by have := hx.out; rwa [← hl.out, List.take_length] at this)
      rw [List.take_of_length_le (by rw [hl.out]; exact Nat.le_refl _)] at ho
      have hcap := tkL_len xs
      rw [hl.out] at hcap
      obtain ⟨A4, n4, c4, rfl, hn4, hc4, -, hr4, hf4⟩ := ho.form
      have hn4' : n4 ≤ 1000 := by omega
      clear hn4 hx ho
      go_wp2_with fail
      (with_reducible refine (kc.out _ _ _ _ _ hr4 (by omega)).mono ?_)
      rintro r w1 ⟨rfl, hb2⟩
      have hb3 := hb.trans (hb2.mono hb.size)
      replace hr4 := hr4.below hb2 (Nat.le_refl _)
      generalize hCC : chkL (tkL xs) = C at *
      have hte := Lib.hid (tkE_chk hf.out hCC)
      replace hCC := Lib.hid hCC
      by_cases hC : C = 0
      · subst hC
        go_wp2_with fail
        go_ret2
        exact ⟨A4, n4, c4, by rw [hte.out]; rfl, hc4, by unfold tkR; rw [if_pos hte.out]; exact hr4, hb3⟩
      · have hCb : (C != 0) = true := by simpa using hC
        have hC0 := Lib.hid hC
        clear hC
        go_wp2_with fail
        go_ret2
        exact RetTs.bad hte.out hC0.out hb3
end Go.Proofs.Ytkcmbpokoijglaa

/- The reference's Ticks. -/
set_option linter.unusedVariables false
set_option linter.unusedSimpArgs false
namespace Go.Proofs.Ytkcmbpokoijglaa
open Go.RowKit CoMot CoEv
set_option maxRecDepth 100000 in
set_option maxHeartbeats 4000000 in
theorem rticks31_any (A : Option Addr) (n c : Nat) (xs : List Ev) (w : World) (h : RS EE w A n xs) (hn : n ≤ 1000) :
    Calls Try.prog 37 #[.slice A n c] w (RetTs w xs) := by
  have hl := Lib.hid h.len
  have kc := Lib.hid fun A n c l w h hn => rcheck31_any A n c l w h hn
  go_enter Try.func37, Try.ntmps37
  go_wp2_with fail
  go_loopw [4, 5] (fun o i wr => ∃ k : Nat, k ≤ n ∧ i = .int .i64 k ∧ OS TE 33 wr w.heap.size o (tkL (xs.take k)) ∧ Hid (CoEv.first (xs.take k) = 0) ∧ Below w.heap.size w wr) (fun _ i _ => n - (intOf i).toNat)
  case atStart => exact ⟨0, Nat.zero_le _, rfl, OS.nil_, Lib.hid rfl, Below.refl _ _⟩
  case round =>
    obtain ⟨k, hk, rfl, ho, hx, hb⟩ := hrel
    by_cases hlt : k < n
    · obtain ⟨ad, e, rfl, hbl, hy, c0, c1, c2, c3, c4, c5, c6⟩ := (RS.below h hb (Nat.le_refl _)).ev hlt
      obtain ⟨ad', e', had, hbl', hy', y0, y1, y2, y3, -, -, -⟩ := h.ev hlt
      injection had with had; subst had
      have hee : e' = e := by have h1 := hy.out; have h2 := hy'.out; rw [h1] at h2; injection h2 with h2; exact h2.symm
      rw [hee] at y0 y1 y2 y3
      clear hy' hee
      have ke := fun w => rcheck4_any e w
      have h1 := first_take hx.out hy.out
      have h2 := first_stop hx.out hy.out
      have hs := hb.size
      have hyes := Lib.hid fun h => tkL_yes (e := e) hy.out h
      have hno := Lib.hid fun h => tkL_no (e := e) hy.out h
      have hcap := tkL_take xs k
      obtain ⟨k', t, u, v, ww, l, s⟩ := e
      simp only at c0 c1 c2 c3 c4 c5 c6 hyes hno y0 y1 y2 y3
      rw [show evV ⟨k', t, u, v, ww, l, s⟩ = .agg #[.int .i64 k', .int .i64 t, .int .i64 u, .int .i64 v, .int .i64 ww, .int .i64 l, .int .i64 s] from rfl] at ke
      generalize chk ⟨k', t, u, v, ww, l, s⟩ = C at *
      replace ke := Lib.hid ke
      by_cases hC : C = 0
      · subst hC
        replace h1 := Lib.hid h1
        clear h2 hy hx
        go_wp2_with fail
        (with_reducible refine (ke.out _).mono ?_)
        rintro r w1 ⟨rfl, hb2⟩
        have hb3 := hb.trans (hb2.mono hs)
        have ho3 := ho.below hb2 (Nat.le_refl _)
        have hKS : Hid (∀ W', Below w.heap.size w W' → W'.cell? (ad.add (k * 7)) = some (.int .i64 k') ∧ W'.cell? ⟨(ad.add (k * 7)).block, (ad.add (k * 7)).off + 1, none⟩ = some (.int .i64 t) ∧ W'.cell? ⟨(ad.add (k * 7)).block, (ad.add (k * 7)).off + 2, none⟩ = some (.int .i64 u) ∧ W'.cell? ⟨(ad.add (k * 7)).block, (ad.add (k * 7)).off + 3, none⟩ = some (.int .i64 v)) := Lib.hid fun W' hs =>
          ⟨(hs.cell (by rw [block_of_add]; exact hbl')).trans y0, (hs.cell (by show (ad.add (k * 7)).block < _; rw [block_of_add]; exact hbl')).trans y1, (hs.cell (by show (ad.add (k * 7)).block < _; rw [block_of_add]; exact hbl')).trans y2, (hs.cell (by show (ad.add (k * 7)).block < _; rw [block_of_add]; exact hbl')).trans y3⟩
        obtain ⟨z0, z1, z2, z3⟩ := hKS.out _ hb3
        have hz3 := hb3.size
        clear ho c0 c1 c2 c3 c4 c5 c6 y0 y1 y2 y3
        by_cases hk1 : k' = 1
        · have d1 : (k' == 1) = true := by simpa using hk1
          have hup := Lib.hid (hyes.out hk1)
          replace hk1 := Lib.hid hk1
          go_upto_region 9 with fail
          have BX : Below w.heap.size w w1 := hb3
          go_loud (go_region_held3 (fun W' => W'.cell? (ad.add (k * 7)) = some (.int .i64 k') ∧ W'.cell? ⟨(ad.add (k * 7)).block, (ad.add (k * 7)).off + 1, none⟩ = some (.int .i64 t) ∧ W'.cell? ⟨(ad.add (k * 7)).block, (ad.add (k * 7)).off + 2, none⟩ = some (.int .i64 u) ∧ W'.cell? ⟨(ad.add (k * 7)).block, (ad.add (k * 7)).off + 3, none⟩ = some (.int .i64 v))
            ((first | exact hKS.out _ BZ | exact hKS.out _ BX | exact hKS.out _ BX.drew | exact hKS.out _ (BX.drew.alloc hz3 _) | exact hKS.out _ (BX.alloc hz3 _).drew))
            ((first
              | (refine step_push_keep tyT (by rfl) (.tmp 28) (.tmp 45) (by rfl) (by rfl) (by rfl) (ho3.alloc _).drew (RS.blk (xs := [(⟨u, v, t⟩ : Tick)]) (Blk.new _ _ _).drew rfl rfl) (by unfold maxLen; omega) (by omega) (by simp; omega) ?_; intro v7 w7 ho7 _ hg7 _; have BZ := (BX.alloc hz3 _).drew.trans (Below.grown (Below.refl w.heap.size _) hg7 (by simp; omega) (fun k hk => (ho3.block_lt k hk).1)))
              | fail)))
          go_wp2_with fail
          go_roundw
          case rel => exact ⟨k + 1, by omega, by go_num, by rw [hup.out]; exact ho7, h1, BZ⟩
          case measure => simp [intOf]; omega
        · have d1 : (k' == 1) = false := by simpa using hk1
          have hup := Lib.hid (hno.out hk1)
          replace hk1 := Lib.hid hk1
          go_wp2_with fail
          go_roundw
          case rel => exact ⟨k + 1, by omega, by go_num, by rw [hup.out]; exact ho3, h1, hb3⟩
          case measure => simp [intOf]; omega
      · have h2' := Lib.hid (h2 hC)
        have hCb : (C != 0) = true := by simpa using hC
        have hC0 := Lib.hid hC
        clear h1 h2 hy hx hC
        go_wp2_with fail
        (with_reducible refine (ke.out _).mono ?_)
        rintro r w1 ⟨rfl, hb2⟩
        have hb3 := hb.trans (hb2.mono hs)
        go_wp2_with fail
        go_ret2
        exact RetTs.bad (tkE_first h2'.out hC0.out) hC0.out hb3
    · obtain rfl : k = n := by omega
      have hf : Hid (CoEv.first xs = 0) := Lib.hid (by have := hx.out; rwa [← hl.out, List.take_length] at this)
      rw [List.take_of_length_le (by rw [hl.out]; exact Nat.le_refl _)] at ho
      have hcap := tkL_len xs
      rw [hl.out] at hcap
      obtain ⟨A4, n4, c4, rfl, hn4, hc4, -, hr4, hf4⟩ := ho.form
      have hn4' : n4 ≤ 1000 := by omega
      clear hn4 hx ho
      go_wp2_with fail
      (with_reducible refine (kc.out _ _ _ _ _ hr4 (by omega)).mono ?_)
      rintro r w1 ⟨rfl, hb2⟩
      have hb3 := hb.trans (hb2.mono hb.size)
      replace hr4 := hr4.below hb2 (Nat.le_refl _)
      generalize hCC : chkL (tkL xs) = C at *
      have hte := Lib.hid (tkE_chk hf.out hCC)
      replace hCC := Lib.hid hCC
      by_cases hC : C = 0
      · subst hC
        go_wp2_with fail
        go_ret2
        exact ⟨A4, n4, c4, by rw [hte.out]; rfl, hc4, by unfold tkR; rw [if_pos hte.out]; exact hr4, hb3⟩
      · have hCb : (C != 0) = true := by simpa using hC
        have hC0 := Lib.hid hC
        clear hC
        go_wp2_with fail
        go_ret2
        exact RetTs.bad hte.out hC0.out hb3
end Go.Proofs.Ytkcmbpokoijglaa
