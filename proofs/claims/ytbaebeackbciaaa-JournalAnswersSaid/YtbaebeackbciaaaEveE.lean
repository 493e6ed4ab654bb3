/- Events: their bytes. -/
import Derived.Test.YtbaebeackbciaaaEveD
set_option linter.unusedVariables false
set_option linter.unusedSimpArgs false
namespace Go.Proofs.Ytbaebeackbciaaa
open Go.RowKit CoEv

theorem tyB : Ty BE 26 5 1 := ⟨Try.underlying26, .int .u8 0, by kernel_rfl, rfl⟩
theorem encs_take {l : List Ev} {i : Nat} {e : Ev} (h : l[i]? = some e) : encs (l.take (i + 1)) = encs (l.take i) ++ enc e := by
  rw [List.take_add_one, h, encs_append]; simp [encs]
theorem encs_take_len (l : List Ev) (i : Nat) : (encs (l.take i)).length ≤ i * 10 := by
  rw [encs_len, List.length_take]; omega
/-- What Encode returns. -/
def encE (l : List Ev) : List Nat := if chks l = 0 then encs l else []
theorem enc_cells (k t u v ww l s : Int) (z : Int) (hz : z = if s = -1 then 1 else 0) : (#[.int .u8 (k % 256), .int .u8 (t / 65536 % 256), .int .u8 (t / 256 % 256), .int .u8 (t % 256), .int .u8 (u % 256), .int .u8 (v % 256), .int .u8 (ww / 256 % 256), .int .u8 (ww % 256), .int .u8 (l % 256), .int .u8 z] : Array Value) = (BE.all (enc ⟨k, t, u, v, ww, l, s⟩)).toArray := by
  subst hz
  have e : ∀ x : Int, ((x % 256).toNat : Int) = x % 256 := fun x => by omega
  simp only [enc, BE, El.all, List.flatMap_cons, List.flatMap_nil, List.cons_append, List.nil_append, e]
  split <;> rfl

set_option maxRecDepth 100000 in
set_option maxHeartbeats 4000000 in
theorem eencode_any (A : Option Addr) (n c : Nat) (xs : List Ev) (w : World) (h : RS EE w A n xs) (hn : n ≤ 1099511627776) :
    Calls Try.prog 43 #[.slice A n c] w (RetGE BE w (encE xs) (chks xs)) := by
  have hl := Lib.hid h.len
  have ke := fun w h => echecked_any A n c xs w h hn
  by_cases hz : chks xs = 0
  · have hv : Hid (encE xs = encs xs) := Lib.hid (by unfold encE; rw [if_pos hz])
    have hn2 : n ≤ 65536 := by
      unfold chks at hz; rw [hl.out] at hz; split at hz
      · omega
      · omega
    rw [hz] at ke ⊢
    replace ke := Lib.hid ke
    clear hz
    go_enter Try.func43, Try.ntmps43
    go_wp2_with fail
    (with_reducible refine (ke.out _ h).mono ?_)
    rintro r w1 ⟨rfl, hb1⟩
    go_wp2_with fail
    go_loopw [5, 16] (fun o i wr => ∃ (k : Nat) (v : Value), v = o ∧ k ≤ n ∧ i = .int .i64 k ∧ OS BE 5 wr w.heap.size v (encs (xs.take k)) ∧ Below w.heap.size w wr) (fun _ i _ => n - (intOf i).toNat)
    case atStart => exact ⟨0, _, rfl, Nat.zero_le _, rfl, OS.nil_, hb1⟩
    case round =>
      obtain ⟨k, vo, rfl, hk, rfl, ho, hb⟩ := hrel
      by_cases hlt : k < n
      · obtain ⟨ad, e, rfl, hbl, hy, c0, c1, c2, c3, c4, c5, c6⟩ := (RS.below h hb (Nat.le_refl _)).ev hlt
        have h1 := encs_take hy.out
        have hlen := encs_take_len xs k
        have hs := hb.size
        obtain ⟨k', t, u, v, ww, l, s⟩ := e
        simp only at c0 c1 c2 c3 c4 c5 c6
        have hcs := Lib.hid (enc_cells k' t u v ww l s)

        clear hy hb1 ke
        by_cases hsg : s = -1
        · have hsb : (s == -1) = true := by simpa using hsg
          replace hsg := Lib.hid hsg
          go_wp2_with (at_builtin; refine wpList_pushG tyB (hcs.out 1 (by rw [if_pos hsg.out])) rfl rfl _ _ rfl rfl rfl (by simp) (ho.alloc _) (by unfold maxLen; simp [enc_len]; omega) (by simp [enc_len]; omega) (by simp; omega) ?_; intro v' w2 ho' hb' hg')
          rw [← h1] at ho'
          have hb2 := (hb.alloc hs _).trans (hb'.mono (Nat.le_refl _))
          clear hb' hg' ho
          go_roundw
          case rel => exact ⟨k + 1, _, rfl, by omega, by go_num, ho', hb2⟩
          case measure => simp [intOf]; omega
        · have hsb : (s == -1) = false := by simpa using hsg
          replace hsg := Lib.hid hsg
          go_wp2_with (at_builtin; refine wpList_pushG tyB (hcs.out 0 (by rw [if_neg hsg.out])) rfl rfl _ _ rfl rfl rfl (by simp) (ho.alloc _) (by unfold maxLen; simp [enc_len]; omega) (by simp [enc_len]; omega) (by simp; omega) ?_; intro v' w2 ho' hb' hg')
          rw [← h1] at ho'
          have hb2 := (hb.alloc hs _).trans (hb'.mono (Nat.le_refl _))
          clear hb' hg' ho
          go_roundw
          case rel => exact ⟨k + 1, _, rfl, by omega, by go_num, ho', hb2⟩
          case measure => simp [intOf]; omega
      · obtain rfl : k = n := by omega
        have hf : Hid (xs.take k = xs) := Lib.hid (by rw [← hl.out, List.take_length])
        rw [hf.out] at ho
        obtain ⟨A', n', c', rfl, hn', h1, h2, h3, h4⟩ := ho.form
        go_wp2_with fail
        refine bodyPost_ret (v := .tuple #[.slice A' n' c', .int .i64 0]) (by simp [results, Try.results43, go_sem]) rfl ?_
        rw [hv.out]
        exact ⟨A', _, c', rfl, h1, h3, hb, h4⟩
  · have hv : Hid (encE xs = []) := Lib.hid (by unfold encE; rw [if_neg hz])
    have hzb : (chks xs != 0) = true := by simpa using hz
    replace hz := Lib.hid hz
    generalize chks xs = C at *
    replace ke := Lib.hid ke
    go_enter Try.func43, Try.ntmps43
    go_wp2_with fail
    (with_reducible refine (ke.out _ h).mono ?_)
    rintro r w1 ⟨rfl, hb1⟩
    go_wp2_with fail
    refine bodyPost_ret (v := .tuple #[.slice none 0 0, .int .i64 C]) (by simp [results, Try.results43, go_sem]) rfl ?_
    rw [hv.out]
    exact RetGE.nil_ hb1

set_option maxRecDepth 100000 in
set_option maxHeartbeats 4000000 in
theorem rencode4_any (A : Option Addr) (n c : Nat) (xs : List Ev) (w : World) (h : RS EE w A n xs) (hn : n ≤ 1099511627776) :
    Calls Try.prog 47 #[.slice A n c] w (RetGE BE w (encE xs) (chks xs)) := by
  have hl := Lib.hid h.len
  have ke := fun w h => rcheckall_any A n c xs w h hn
  by_cases hz : chks xs = 0
  · have hv : Hid (encE xs = encs xs) := Lib.hid (by unfold encE; rw [if_pos hz])
    have hn2 : n ≤ 65536 := by
      unfold chks at hz; rw [hl.out] at hz; split at hz
      · omega
      · omega
    have hok := Lib.hid (first_all (show first xs = 0 by unfold chks at hz; rwa [if_neg (by rw [hl.out]; omega)] at hz))
    rw [hz] at ke ⊢
    replace ke := Lib.hid ke
    clear hz
    go_enter Try.func47, Try.ntmps47
    go_wp2_with fail
    (with_reducible refine (ke.out _ h).mono ?_)
    rintro r w1 ⟨rfl, hb1⟩
    go_wp2_with fail
    go_loopw [5, 16] (fun o i wr => ∃ (k : Nat) (v : Value), v = o ∧ k ≤ n ∧ i = .int .i64 k ∧ OS BE 5 wr w.heap.size v (encs (xs.take k)) ∧ Below w.heap.size w wr) (fun _ i _ => n - (intOf i).toNat)
    case atStart => exact ⟨0, _, rfl, Nat.zero_le _, rfl, OS.nil_, hb1⟩
    case round =>
      obtain ⟨k, vo, rfl, hk, rfl, ho, hb⟩ := hrel
      by_cases hlt : k < n
      · obtain ⟨ad, e, rfl, hbl, hy, c0, c1, c2, c3, c4, c5, c6⟩ := (RS.below h hb (Nat.le_refl _)).ev hlt
        have h1 := encs_take hy.out
        have hlen := encs_take_len xs k
        have hs := hb.size
        obtain ⟨k', t, u, v, ww, l, s⟩ := e
        simp only at c0 c1 c2 c3 c4 c5 c6
        have hcs := Lib.hid (enc_cells k' t u v ww l s)
        have hs1 : s = 1 ∨ s = -1 ∨ s = 0 := by
          have := chk_bd (hok.out _ (List.mem_of_getElem? hy.out))
          simp only at this
          by_cases hk1 : k' = 1
          · have := this.2.2.2.2.2.2.1 hk1; omega
          · have := this.2.2.2.2.2.2.2 hk1; omega
        clear hy hb1 ke
        by_cases hsg : s = -1
        · have hsb : decide (s < 0) = true := by simp; omega
          replace hsg := Lib.hid hsg
          go_wp2_with (at_builtin; refine wpList_pushG tyB (hcs.out 1 (by rw [if_pos hsg.out])) rfl rfl _ _ rfl rfl rfl (by simp) (ho.alloc _) (by unfold maxLen; simp [enc_len]; omega) (by simp [enc_len]; omega) (by simp; omega) ?_; intro v' w2 ho' hb' hg')
          rw [← h1] at ho'
          have hb2 := (hb.alloc hs _).trans (hb'.mono (Nat.le_refl _))
          clear hb' hg' ho
          go_roundw
          case rel => exact ⟨k + 1, _, rfl, by omega, by go_num, ho', hb2⟩
          case measure => simp [intOf]; omega
        · have hsb : decide (s < 0) = false := by simp; omega
          replace hsg := Lib.hid hsg
          go_wp2_with (at_builtin; refine wpList_pushG tyB (hcs.out 0 (by rw [if_neg hsg.out])) rfl rfl _ _ rfl rfl rfl (by simp) (ho.alloc _) (by unfold maxLen; simp [enc_len]; omega) (by simp [enc_len]; omega) (by simp; omega) ?_; intro v' w2 ho' hb' hg')
          rw [← h1] at ho'
          have hb2 := (hb.alloc hs _).trans (hb'.mono (Nat.le_refl _))
          clear hb' hg' ho
          go_roundw
          case rel => exact ⟨k + 1, _, rfl, by omega, by go_num, ho', hb2⟩
          case measure => simp [intOf]; omega
      · obtain rfl : k = n := by omega
        have hf : Hid (xs.take k = xs) := Lib.hid (by rw [← hl.out, List.take_length])
        rw [hf.out] at ho
        obtain ⟨A', n', c', rfl, hn', h1, h2, h3, h4⟩ := ho.form
        go_wp2_with fail
        refine bodyPost_ret (v := .tuple #[.slice A' n' c', .int .i64 0]) (by simp [results, Try.results47, go_sem]) rfl ?_
        rw [hv.out]
        exact ⟨A', _, c', rfl, h1, h3, hb, h4⟩
  · have hv : Hid (encE xs = []) := Lib.hid (by unfold encE; rw [if_neg hz])
    have hzb : (chks xs != 0) = true := by simpa using hz
    replace hz := Lib.hid hz
    generalize chks xs = C at *
    replace ke := Lib.hid ke
    go_enter Try.func47, Try.ntmps47
    go_wp2_with fail
    (with_reducible refine (ke.out _ h).mono ?_)
    rintro r w1 ⟨rfl, hb1⟩
    go_wp2_with fail
    refine bodyPost_ret (v := .tuple #[.slice none 0 0, .int .i64 C]) (by simp [results, Try.results47, go_sem]) rfl ?_
    rw [hv.out]
    exact RetGE.nil_ hb1
end Go.Proofs.Ytbaebeackbciaaa
