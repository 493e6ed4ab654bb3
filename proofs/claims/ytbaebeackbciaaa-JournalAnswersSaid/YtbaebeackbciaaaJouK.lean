/- What is read of a journal that is cut off; journal.Recover. -/
import Derived.Test.YtbaebeackbciaaaJouG
import Derived.Test.YtbaebeackbciaaaJouE
import Derived.Test.YtbaebeackbciaaaCatA
import Derived.Test.YtbaebeackbciaaaJouO
set_option linter.unusedVariables false
set_option linter.unusedSimpArgs false
namespace CoEv
theorem decL_len {b : List Nat} (h : decE b = 0) : b.length = 10 * (decL b).length := by
  have hd := h
  unfold decE at h
  unfold decL
  rw [if_pos hd]
  split at h
  · omega
  split at h
  · omega
  cases hr : raws b with
  | none => rw [hr] at h; exact absurd h (by decide)
  | some l => exact raws_len _ _ hr
theorem one_m {b : List Nat} {l : List Ev} {m : Nat} (h : one b = some (l, m)) : m = 6 + 10 * l.length := by
  unfold one at h
  split at h
  · rename_i a c r
    split at h
    · cases h
    split at h
    · cases h
    split at h
    · split at h
      · rename_i h1 h2 h3 h4
        injection h with h
        injection h with h5 h6
        have := decL_len h4
        rw [List.length_take] at this
        rw [← h5]
        omega
      · cases h
    · cases h
  · cases h
theorem rdk_flat {b : List Nat} : ∀ {i k : Nat} {L : List (List Ev)}, rdk b i = some (L, k) → 10 * L.flatten.length + 6 * L.length = k := by
  intro i
  induction i with
  | zero => intro k L h; rw [rdk] at h; injection h with h; injection h with h1 h2; subst h1; subst h2; simp
  | succ i ih =>
    intro k L h
    rw [rdk] at h
    cases hi : rdk b i with
    | none => rw [hi] at h; cases h
    | some p =>
      obtain ⟨L0, k0⟩ := p
      rw [hi] at h
      have := ih hi
      cases ho : one (b.drop k0) with
      | none => simp only [ho] at h; cases h
      | some q =>
        obtain ⟨l, m⟩ := q
        simp only [ho] at h
        injection h with h
        injection h with h1 h2
        have hm := one_m ho
        rw [← h1]
        simp only [List.flatten_append, List.length_append, List.flatten_cons, List.flatten_nil, List.append_nil, List.length_cons, List.length_nil]
        omega
theorem IsRead.bd {b : List Nat} {L : List (List Ev)} {k : Nat} (h : IsRead b L k) : k ≤ b.length ∧ 10 * L.flatten.length + 6 * L.length = k := by
  obtain ⟨i, h1, _⟩ := h
  exact ⟨(rdk_bd h1).1, rdk_flat h1⟩
theorem one_short {a c : Nat} {r : List Nat} (h : r.length < 10 * a + 4) : one (a :: c :: r) = none := by
  unfold one
  simp only
  split <;> first | rfl | rw [if_pos h]
theorem one_cut {l : List Ev} (h : Rt l) {j : Nat} (hj : j < (btc l).length) : one ((btc l).take j) = none := by
  have hel := encs_len l
  have e : btc l = l.length :: (255 - l.length) :: (encs l ++ word (sum (pre l))) := by
    unfold btc
    rw [show pre l ++ word (sum (pre l)) = (l.length :: (255 - l.length) :: encs l) ++ word (sum (pre l)) by rw [← pre_eq h.2.1]]
    rfl
  rw [btc_len] at hj
  rw [e]
  match j, hj with
  | 0, _ => rfl
  | 1, _ => rfl
  | j + 2, hj =>
    show one (l.length :: (255 - l.length) :: ((encs l ++ word (sum (pre l))).take j)) = none
    refine one_short ?_
    rw [List.length_take]
    omega
theorem read_cut {L : List (List Ev)} (h : Rts L) {n k : Nat} (hn : n ≤ (joi L).length) (hk : k ≤ L.length) (h1 : jend L k ≤ n) (h2 : ∀ l, L[k]? = some l → n < jend L k + 6 + 10 * l.length) :
    IsRead ((joi L).take n) (L.take k) (jend L k) := by
  rcases Nat.lt_or_ge k L.length with hlt | hge
  · have hl : L[k]? = some L[k] := List.getElem?_eq_getElem hlt
    generalize L[k] = l at hl
    have hs := joi_split L hl
    have hrt : Rt l := h l (List.mem_of_getElem? hl)
    have hbl := btc_len l
    have h2' := h2 l hl
    unfold jend at h1 h2' ⊢
    have he : (joi L).take n = joi (L.take k) ++ (btc l).take (n - (joi (L.take k)).length) := by
      rw [hs, List.take_append, List.take_of_length_le h1, List.take_append_of_le_length (by omega)]
    rw [he]
    exact read_joi (fun a ha => h a (List.mem_of_mem_take ha)) (one_cut hrt (by omega))
  · obtain rfl : k = L.length := by omega
    rw [jend_all] at h1 ⊢
    rw [List.take_of_length_le h1, List.take_length]
    exact read_all h
theorem joi_take (L : List (List Ev)) (k : Nat) : (joi L).take (jend L k) = joi (L.take k) := by
  have : joi L = joi (L.take k) ++ joi (L.drop k) := by rw [← joi_append, List.take_append_drop]
  rw [this]
  unfold jend
  exact List.take_left
end CoEv
namespace Go.Proofs.Ytbaebeackbciaaa
open Go.RowKit CoEv

/-- What Recover returns. -/
def RetRc (w : World) (bs : List Nat) (e : Ending) (w' : World) : Prop := ∃ A n c B m d L k, e = .returned (.tuple #[.slice A n c, .slice B m d]) ∧ n ≤ c ∧ RS EE w' A n L.flatten ∧ m ≤ d ∧ RS BE w' B m (bs.take k) ∧ IsRead bs L k ∧ Below w.heap.size w w' ∧ Fr w.heap.size A ∧ Fr w.heap.size B

set_option maxRecDepth 100000 in
set_option maxHeartbeats 4000000 in
theorem jrecover_any (A : Option Addr) (n c : Nat) (bs : List Nat) (w : World) (h : RS BE w A n bs) (hB : Byt bs) (hc : n ≤ c) (hn : n ≤ 1099511627776) :
    Calls Try.prog 19 #[.slice A n c] w (RetRc w bs) := by
  have hl := Lib.hid h.len
  have kr := Lib.hid (jread_any A n c bs w h hB hc hn)
  go_enter Try.func19, Try.ntmps19
  go_wp2_with fail
  (with_reducible refine kr.out.mono ?_)
  rintro e w1 ⟨A1, n1, c1, L, k, rfl, hc1, hr1, hrd, hb1, hf1⟩
  have hbd := hrd.bd
  have hn1 := hr1.len
  rw [hl.out] at hbd
  have kcc := Lib.hid fun w h => econcat_any A1 n1 c1 L w h (by omega) (by omega)
  have kcl := Lib.hid fun w h => bclone_any A k c (bs.take k) w h (by omega)
  replace hrd := Lib.hid hrd
  replace hn1 := Lib.hid hn1
  have hkn : k ≤ n := hbd.1
  have i1 : (k : Int) ≤ (c : Int) := by omega
  have i2 : (0 : Int) ≤ (k : Int) := Int.natCast_nonneg _
  replace hbd := Lib.hid hbd
  go_upto_region 2 with fail
  have BN : Below w.heap.size w w1 := hb1
  have RN := hr1
  go_loud (go_region_held3 (fun _ => True) (trivial) ((first
    | (go_at_call 34; (with_reducible refine (kcl.out _ ((h.below BN (Nat.le_refl _)).head hkn)).mono ?_); rintro e w3 ⟨A3, n3, c3, rfl, hc3, hr3, hb3, hf3⟩)
    | (go_at_call 33; (with_reducible refine (kcc.out _ (RL.below RN ((Below.refl _ _).drew) (Nat.le_refl _))).mono ?_); rintro e w2 ⟨A2, n2, c2, rfl, hc2, hr2, hb2, hf2⟩; replace BN := BN.drew.trans (hb2.mono BN.size)))))
  go_wp2_with fail
  refine bodyPost_ret (v := .tuple #[.slice A2 n2 c2, .slice A3 n3 c3]) (by simp [results, Try.results19, go_sem]) rfl ?_
  have BN3 := BN.trans (hb3.mono BN.size)
  exact ⟨A2, n2, c2, A3, n3, c3, L, k, rfl, hc2, hr2.below hb3 (Nat.le_refl _), hc3, hr3, hrd.out, BN3, hf2.mono hb1.size, hf3.mono BN.size⟩
end Go.Proofs.Ytbaebeackbciaaa
