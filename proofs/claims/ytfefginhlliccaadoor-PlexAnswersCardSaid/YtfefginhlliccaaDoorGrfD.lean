/- The reference's graphs (cohesionref03): with. -/
import Derived.Test.YtfefginhlliccaaDoorGrfB
import Derived.Test.YtfefginhlliccaaDoorSetB
set_option linter.unusedVariables false
set_option linter.unusedSimpArgs false
namespace Go.Proofs.YtfefginhlliccaaDoor
open Go.RowKit

/-- A list of edges with one more. -/
def withL : List (Int × Int) → (Int × Int) → List (Int × Int)
  | [], e => [e]
  | x :: l, e => if ltE x e then x :: withL l e else if x = e then x :: l else e :: x :: l
theorem ltE_irr (e : Int × Int) : ¬ ltE e e := by unfold ltE; omega
theorem with_drop {es : List (Int × Int)} {k : Nat} {y e : Int × Int} (h : es[k]? = some y) : withL (es.drop k) e = if ltE y e then y :: withL (es.drop (k + 1)) e else if y = e then es.drop k else e :: es.drop k := by
  obtain ⟨hk, he⟩ := List.getElem?_eq_some_iff.1 h
  rw [List.drop_eq_getElem_cons hk, he]; rfl
theorem with_step {es : List (Int × Int)} {k : Nat} {y e : Int × Int} (hx : withL es e = es.take k ++ withL (es.drop k) e) (h : es[k]? = some y) (hl : ltE y e) : withL es e = es.take (k + 1) ++ withL (es.drop (k + 1)) e := by
  rw [hx, with_drop h, if_pos hl, takeE h, List.append_assoc]; rfl
theorem with_same {es : List (Int × Int)} {k : Nat} {e : Int × Int} (hx : withL es e = es.take k ++ withL (es.drop k) e) (h : es[k]? = some e) : withL es e = es := by
  rw [hx, with_drop h, if_neg (ltE_irr e), if_pos rfl, List.take_append_drop]
theorem with_here {es : List (Int × Int)} {k : Nat} {y e : Int × Int} (hx : withL es e = es.take k ++ withL (es.drop k) e) (h : es[k]? = some y) (h1 : ¬ ltE y e) (h2 : y ≠ e) : withL es e = es.take k ++ [e] ++ es.drop k := by
  rw [hx, with_drop h, if_neg h1, if_neg h2, List.append_assoc]; rfl
theorem with_end {es : List (Int × Int)} {k : Nat} {e : Int × Int} (hx : withL es e = es.take k ++ withL (es.drop k) e) (h : es.length ≤ k) : withL es e = es.take k ++ [e] ++ es.drop k := by
  rw [hx, List.drop_of_length_le h]; simp [withL]
theorem mem_with {es : List (Int × Int)} {e z : Int × Int} : z ∈ withL es e ↔ z = e ∨ z ∈ es := by
  induction es with
  | nil => simp [withL]
  | cons x l ih =>
    unfold withL
    split
    · rw [List.mem_cons, ih, List.mem_cons]
      constructor
      · rintro (h | h | h)
        · exact .inr (.inl h)
        · exact .inl h
        · exact .inr (.inr h)
      · rintro (h | h | h)
        · exact .inr (.inl h)
        · exact .inl h
        · exact .inr (.inr h)
    · split
      · rename_i h; subst h; simp
      · simp
theorem ltE_tr {a b c : Int × Int} (h : ltE a b) (h' : ltE b c) : ltE a c := by unfold ltE at *; omega
theorem ltE_tot {a b : Int × Int} (h : ¬ ltE a b) (h' : a ≠ b) : ltE b a := by
  unfold ltE at *
  have : ¬ (a.1 = b.1 ∧ a.2 = b.2) := fun ⟨h1, h2⟩ => h' (Prod.ext h1 h2)
  omega
theorem with_sorted {es : List (Int × Int)} {e : Int × Int} (h : es.Pairwise ltE) : (withL es e).Pairwise ltE := by
  induction es with
  | nil => simp [withL]
  | cons x l ih =>
    rw [List.pairwise_cons] at h
    unfold withL
    split
    · rename_i hx
      rw [List.pairwise_cons]
      refine ⟨fun z hz => ?_, ih h.2⟩
      rcases mem_with.1 hz with rfl | hz
      · exact hx
      · exact h.1 z hz
    · split
      · rw [List.pairwise_cons]; exact h
      · rename_i h1 h2
        have h3 := ltE_tot h1 h2
        rw [List.pairwise_cons, List.pairwise_cons]
        refine ⟨fun z hz => ?_, h⟩
        rcases List.mem_cons.1 hz with rfl | hz
        · exact h3
        · exact ltE_tr h3 (h.1 z hz)
theorem srt_with {n : Int} {es : List (Int × Int)} {e : Int × Int} (h : Srt n es) (h0 : 0 ≤ e.1) (h1 : e.1 < e.2) (h2 : e.2 < n) : Srt n (withL es e) :=
  ⟨fun z hz => by rcases mem_with.1 hz with rfl | hz; exact ⟨h0, h1, h2⟩; exact h.1 z hz, with_sorted h.2⟩
theorem with_length (es : List (Int × Int)) (e : Int × Int) : (withL es e).length ≤ es.length + 1 := by
  induction es with
  | nil => simp [withL]
  | cons x l ih =>
    unfold withL
    split
    · simp; omega
    · split <;> simp
theorem edgs_take (es : List (Int × Int)) (k : Nat) : edgs (es.take k) = (edgs es).take (k * 2) := by
  induction es generalizing k with
  | nil => simp [edgs]
  | cons e es ih =>
    cases k with
    | zero => simp [edgs]
    | succ k => rw [List.take_succ_cons, edgs_cons, edgs_cons, ih, show (k + 1) * 2 = k * 2 + 1 + 1 by omega]; rfl
theorem edgs_drop (es : List (Int × Int)) (k : Nat) : edgs (es.drop k) = (edgs es).drop (k * 2) := by
  induction es generalizing k with
  | nil => simp [edgs]
  | cons e es ih =>
    cases k with
    | zero => simp [edgs]
    | succ k => rw [List.drop_succ_cons, edgs_cons, ih, show (k + 1) * 2 = k * 2 + 1 + 1 by omega]; rfl
theorem RE.head {w : World} {n : Nat} {A : Option Addr} {es : List (Int × Int)} (h : RE w A n es) {k : Nat} (hk : k ≤ n) : RE w A k (es.take k) := by
  have := Reads.head h hk
  rwa [← edgs_take] at this
theorem RE.cut {w : World} {n : Nat} {A : Option Addr} {es : List (Int × Int)} (h : RE w A n es) {k cap : Nat} (hk : k ≤ n) (hc : n ≤ cap) : RE w (if cap = k then A else A.map (·.add (k * 2))) (n - k) (es.drop k) := by
  have := Reads.cut h hk hc
  rwa [← edgs_drop] at this
/-- The call returns a list of edges, the old one or a new one. -/
def RetW (w : World) (A : Option Addr) (es : List (Int × Int)) (e : Ending) (w' : World) : Prop := ∃ A' n' c', e = .returned (.slice A' n' c') ∧ n' ≤ c' ∧ RE w' A' n' es ∧ Below w.heap.size w w' ∧ (A' = A ∨ Fr w.heap.size A')

set_option maxRecDepth 100000 in
set_option maxHeartbeats 4000000 in
theorem with_any (A : Option Addr) (m c : Nat) (es : List (Int × Int)) (x y : Int) (w : World) (h : RE w A m es) (hmc : m ≤ c) (hm : m ≤ 68719476736) :
    Calls Tryd.prog 63 #[.slice A m c, .agg #[.int .i64 x, .int .i64 y]] w (RetW w A (withL es (x, y))) := by
  have hl := Lib.hid h.len
  obtain ⟨i0, hi0, hz0, hz1, hz2⟩ := info_parts edge_info
  go_enter Tryd.func63, Tryd.ntmps63
  go_wp2_with fail
  have hE := Blk.new w 63 #[.int .i64 x, .int .i64 y]
  have hb0 : Below w.heap.size w (w.alloc (.cells #[.int .i64 x, .int .i64 y] 63)) := (Below.refl _ _).alloc (Nat.le_refl _) _
  generalize w.alloc (.cells #[.int .i64 x, .int .i64 y] 63) = w0 at *
  go_loopw [5] (fun i wr => ∃ k : Nat, k ≤ m ∧ i = .int .i64 k ∧ Hid (withL es (x, y) = es.take k ++ withL (es.drop k) (x, y)) ∧ Blk wr w.heap.size 63 #[.int .i64 x, .int .i64 y] ∧ Below w.heap.size w wr) (fun i _ => m - (intOf i).toNat)
  case atStart => exact ⟨0, Nat.zero_le _, rfl, Lib.hid (by simp), hE, hb0⟩
  case round =>
    obtain ⟨k, hk, rfl, hx, hE', hb⟩ := hrel
    clear hE hb0
    have hs := hb.size
    have hrw := RE.below h hb (Nat.le_refl _)
    have b0 : (0 : Int) ≤ (k : Int) := Int.natCast_nonneg _
    have b1 : (k : Int) ≤ (m : Int) := by omega
    have b2 : (k : Int) ≤ (c : Int) := by omega
    have b3 : (m : Int) ≤ (c : Int) := by omega
    have e0 := Blk.cell hE' 0
    have e1 := Blk.cell hE' 1
    simp at e0 e1
    have hel := hE'.lt
    by_cases hlt : k < m
    · obtain ⟨ad, u, v, rfl, hbl, hy, hc1, hc2⟩ := hrw.get hlt
      have kb := fun w => before_any u v x y w
      have q0 : decide ((k : Int) < (m : Int)) = true := by simp; omega
      have i1 : (k : Int) < (m : Int) := by omega
      have hla : (ad.add (k * 2)).block < wr.heap.size := by rw [block_of_add]; omega
      have BN : Below wr.heap.size wr wr := Below.refl _ _
      have hways : (decide (ltE (u, v) (x, y)) = true ∧ withL es (x, y) = es.take (k + 1) ++ withL (es.drop (k + 1)) (x, y)) ∨
          (decide (ltE (u, v) (x, y)) = false ∧ (u == x) = true ∧ (v == y) = true ∧ withL es (x, y) = es) ∨
          (decide (ltE (u, v) (x, y)) = false ∧ (u == x) = false ∧ withL es (x, y) = es.take k ++ [(x, y)] ++ es.drop k) ∨
          (decide (ltE (u, v) (x, y)) = false ∧ (u == x) = true ∧ (v == y) = false ∧ withL es (x, y) = es.take k ++ [(x, y)] ++ es.drop k) := by
        simp only [decide_eq_true_eq, decide_eq_false_iff_not, beq_iff_eq, beq_eq_false_iff_ne]
        by_cases h1 : ltE (u, v) (x, y)
        · exact .inl ⟨h1, with_step hx.out hy.out h1⟩
        · by_cases h2 : (u, v) = (x, y)
          · injection h2 with h3 h4
            subst h3 h4
            exact .inr (.inl ⟨h1, rfl, rfl, with_same hx.out hy.out⟩)
          · have h3 := with_here hx.out hy.out h1 h2
            by_cases h4 : u = x
            · exact .inr (.inr (.inr ⟨h1, h4, fun h5 => h2 (by rw [h4, h5]), h3⟩))
            · exact .inr (.inr (.inl ⟨h1, h4, h3⟩))
      rcases hways with ⟨q1, hh⟩ | ⟨q1, q2, q3, hh⟩ | ⟨q1, q2, hh⟩ | ⟨q1, q2, q3, hh⟩
      all_goals
        rw [q1] at kb
        clear q1
        replace kb := Lib.hid kb
        replace hh := Lib.hid hh
        go_wp2_with fail
        go_region_held3 (fun w' => w'.cell? ⟨w.heap.size, 0, none⟩ = some (.int .i64 x) ∧ w'.cell? ⟨w.heap.size, 1, none⟩ = some (.int .i64 y) ∧ w'.cell? (ad.add (k * 2)) = some (.int .i64 u) ∧ w'.cell? ⟨(ad.add (k * 2)).block, (ad.add (k * 2)).off + 1, none⟩ = some (.int .i64 v))
          ((first | (exact ⟨(BN.cell (p := ⟨w.heap.size, 0, none⟩) hel).trans e0, (BN.cell (p := ⟨w.heap.size, 1, none⟩) hel).trans e1, (BN.cell (p := ad.add (k * 2)) hla).trans hc1, (BN.cell (p := ⟨(ad.add (k * 2)).block, (ad.add (k * 2)).off + 1, none⟩) hla).trans hc2⟩) | ((repeat' apply And.intro) <;> (go_keep; done))))
          ((go_at_call 56; (with_reducible refine (kb.out _).mono ?_); rintro e w9 ⟨rfl, hb9⟩; replace BN : Below wr.heap.size wr w9 := (by first | exact below_call BN hb9 | exact below_call BN.drew hb9)))
      all_goals
        have hE9 := hE'.below BN hel
        have BV := hb.trans (BN.mono hs)
        have hs9 := BV.size
        clear hb9 e0 e1 hc1 hc2 BN hrw hE' hb hel hla kb hx
      · go_wp2_with fail
        go_roundw
        case rel => exact ⟨k + 1, by omega, by go_num, hh, hE9, BV⟩
        case measure => simp [intOf]; omega
      · have hr9 := RE.below h BV (Nat.le_refl _)
        obtain ⟨ad', u', v', had, _, hy', hc1, hc2⟩ := hr9.get hlt
        injection had with had
        subst had
        rw [hy.out] at hy'
        obtain ⟨rfl, rfl⟩ : u = u' ∧ v = v' := by have := hy'.out; injection this with this; injection this with h1 h2; exact ⟨h1, h2⟩
        have e0 := Blk.cell hE9 0
        have e1 := Blk.cell hE9 1
        simp at e0 e1
        clear hy hy'
        go_wp2_with fail
        go_quiet (fail)
        go_wp2_with fail
        go_ret
        exact ⟨_, _, _, rfl, hmc, by rw [hh.out]; exact hr9.drewN _, below_drewN BV _, .inl rfl⟩
      · have hr9 := RE.below h BV (Nat.le_refl _)
        obtain ⟨ad', u', v', had, _, hy', hc1, hc2⟩ := hr9.get hlt
        injection had with had
        subst had
        rw [hy.out] at hy'
        obtain ⟨rfl, rfl⟩ : u = u' ∧ v = v' := by have := hy'.out; injection this with this; injection this with h1 h2; exact ⟨h1, h2⟩
        have e0 := Blk.cell hE9 0
        have e1 := Blk.cell hE9 1
        simp at e0 e1
        have hs9 : w.heap.size + 1 ≤ w9.heap.size := hE9.lt
        clear hy hy'
        go_wp2_with fail
        go_quiet (fail)
        clear e0 e1 hc1 hc2
        go_wp2_with (at_builtin; refine wpList_append_any _ rfl _ _ 25 rfl (w.heap.size + 1) 63 i0 _ 2 16 Tryd.underlying25 hi0 hz0 hz1 hz2 rfl (by omega) (.slice none 0 0) 0 [] rfl (World.ownsRow_nil _ _ _ _) _ _ k c (edgs (es.take k)) rfl (RE.head (hr9.drewN _) hk) (edgs_one _) (by unfold maxLen; omega) (by omega) hs9 ?_; intro v1 w1 hown1 hg1 hat1)
        have hb1 : Below (w.heap.size + 1) w9 w1 := (below_drewN (Below.refl _ w9) _).trans (below_own (Below.refl _ _) hg1 hs9 (fun k hk => by simp [Value.ownBlock] at hk))
        have hE1 := hE9.below hb1 (Nat.lt_succ_self _)
        have BV1 := BV.trans (hb1.mono (Nat.le_succ _))
        have e0 := Blk.cell hE1 0
        have e1 := Blk.cell hE1 1
        simp at e0 e1
        have hs1 : w.heap.size + 1 ≤ w1.heap.size := Nat.le_trans hs9 hb1.size
        have hbv := own_block hown1
        go_region_held3 (fun w' => w'.cell? ⟨w.heap.size, 0, none⟩ = some (.int .i64 x) ∧ w'.cell? ⟨w.heap.size, 1, none⟩ = some (.int .i64 y)) ((first | (exact ⟨(hb3c.cell (p := ⟨w.heap.size, 0, none⟩) (Nat.lt_succ_self _)).trans e0, (hb3c.cell (p := ⟨w.heap.size, 1, none⟩) (Nat.lt_succ_self _)).trans e1⟩) | (exact ⟨(hb2c.cell (p := ⟨w.heap.size, 0, none⟩) (Nat.lt_succ_self _)).trans e0, (hb2c.cell (p := ⟨w.heap.size, 1, none⟩) (Nat.lt_succ_self _)).trans e1⟩) | ((repeat' apply And.intro) <;> (go_keep; done)))) ((first | (refine step_append_any _ (by rfl) (.tmp 38) (.tmp 40) 25 (by rfl) (w.heap.size + 1) 63 i0 _ 2 16 Tryd.underlying25 hi0 hz0 hz1 hz2 rfl (by omega) v1 (0 + k) ([] ++ edgs (es.take k)) (by rfl) ((hown1.alloc _).drew) _ (some ⟨w1.heap.size, 0, none⟩) 1 1 (edgs [(x, y)]) (by rfl) (Reads.drew (news_edge w1 63 x y)) (edgs_one _) (by unfold maxLen; omega) (by omega) (by simp; omega) ?_; intro v2 w2 hown2 hg2 hat2; have hb2c := below_own (((Below.refl _ w1).alloc hs1 _).drew) hg2 (Nat.le_trans hs1 (by simp)) hbv; have hb2 := BV1.trans (hb2c.mono (Nat.le_succ _))) | (refine step_append_any _ (by rfl) (.tmp 41) (.tmp 44) 25 (by rfl) (w.heap.size + 1) 63 i0 _ 2 16 Tryd.underlying25 hi0 hz0 hz1 hz2 rfl (by omega) v2 _ _ (by rfl) hown2 w2.heap.size _ (m - k) (c - k) (edgs (es.drop k)) (by rfl) (RE.cut (RE.below h hb2 (Nat.le_refl _)) hk hmc) (edgs_one _) (by unfold maxLen; omega) (by omega) (Nat.le_trans hs1 hb2c.size) ?_; intro v3 w3 hown3 hg3 hat3; have hb3c := below_own hb2c hg3 (Nat.le_trans hs1 hb2c.size) (own_block hown2))))
        have hb3 := BV1.trans (hb3c.mono (Nat.le_succ _))
        have hfin : RetW w (some ad) (withL es (x, y)) (.returned v3) w3 := by
          obtain ⟨A2, c2, rfl, hc2, _⟩ := own_form hown3
          have hfr := own_fresh hown3
          have hrd := Reads.of_own hown3
          simp only [Nat.zero_add, List.nil_append] at hrd hc2
          rw [← edgs_append, ← edgs_append, ← hh.out] at hrd
          refine ⟨A2, _, c2, rfl, by omega, ?_, hb3, .inr (hfr.mono (Nat.le_succ _))⟩
          unfold RE
          rw [Nat.zero_add]
          exact hrd
        replace hfin := Lib.hid hfin
        go_wp2_with fail
        go_ret
        exact hfin.out
      · have hr9 := RE.below h BV (Nat.le_refl _)
        obtain ⟨ad', u', v', had, _, hy', hc1, hc2⟩ := hr9.get hlt
        injection had with had
        subst had
        rw [hy.out] at hy'
        obtain ⟨rfl, rfl⟩ : u = u' ∧ v = v' := by have := hy'.out; injection this with this; injection this with h1 h2; exact ⟨h1, h2⟩
        have e0 := Blk.cell hE9 0
        have e1 := Blk.cell hE9 1
        simp at e0 e1
        have hs9 : w.heap.size + 1 ≤ w9.heap.size := hE9.lt
        clear hy hy'
        go_wp2_with fail
        go_quiet (fail)
        clear e0 e1 hc1 hc2
        go_wp2_with (at_builtin; refine wpList_append_any _ rfl _ _ 25 rfl (w.heap.size + 1) 63 i0 _ 2 16 Tryd.underlying25 hi0 hz0 hz1 hz2 rfl (by omega) (.slice none 0 0) 0 [] rfl (World.ownsRow_nil _ _ _ _) _ _ k c (edgs (es.take k)) rfl (RE.head (hr9.drewN _) hk) (edgs_one _) (by unfold maxLen; omega) (by omega) hs9 ?_; intro v1 w1 hown1 hg1 hat1)
        have hb1 : Below (w.heap.size + 1) w9 w1 := (below_drewN (Below.refl _ w9) _).trans (below_own (Below.refl _ _) hg1 hs9 (fun k hk => by simp [Value.ownBlock] at hk))
        have hE1 := hE9.below hb1 (Nat.lt_succ_self _)
        have BV1 := BV.trans (hb1.mono (Nat.le_succ _))
        have e0 := Blk.cell hE1 0
        have e1 := Blk.cell hE1 1
        simp at e0 e1
        have hs1 : w.heap.size + 1 ≤ w1.heap.size := Nat.le_trans hs9 hb1.size
        have hbv := own_block hown1
        go_region_held3 (fun w' => w'.cell? ⟨w.heap.size, 0, none⟩ = some (.int .i64 x) ∧ w'.cell? ⟨w.heap.size, 1, none⟩ = some (.int .i64 y)) ((first | (exact ⟨(hb3c.cell (p := ⟨w.heap.size, 0, none⟩) (Nat.lt_succ_self _)).trans e0, (hb3c.cell (p := ⟨w.heap.size, 1, none⟩) (Nat.lt_succ_self _)).trans e1⟩) | (exact ⟨(hb2c.cell (p := ⟨w.heap.size, 0, none⟩) (Nat.lt_succ_self _)).trans e0, (hb2c.cell (p := ⟨w.heap.size, 1, none⟩) (Nat.lt_succ_self _)).trans e1⟩) | ((repeat' apply And.intro) <;> (go_keep; done)))) ((first | (refine step_append_any _ (by rfl) (.tmp 38) (.tmp 40) 25 (by rfl) (w.heap.size + 1) 63 i0 _ 2 16 Tryd.underlying25 hi0 hz0 hz1 hz2 rfl (by omega) v1 (0 + k) ([] ++ edgs (es.take k)) (by rfl) ((hown1.alloc _).drew) _ (some ⟨w1.heap.size, 0, none⟩) 1 1 (edgs [(x, y)]) (by rfl) (Reads.drew (news_edge w1 63 x y)) (edgs_one _) (by unfold maxLen; omega) (by omega) (by simp; omega) ?_; intro v2 w2 hown2 hg2 hat2; have hb2c := below_own (((Below.refl _ w1).alloc hs1 _).drew) hg2 (Nat.le_trans hs1 (by simp)) hbv; have hb2 := BV1.trans (hb2c.mono (Nat.le_succ _))) | (refine step_append_any _ (by rfl) (.tmp 41) (.tmp 44) 25 (by rfl) (w.heap.size + 1) 63 i0 _ 2 16 Tryd.underlying25 hi0 hz0 hz1 hz2 rfl (by omega) v2 _ _ (by rfl) hown2 w2.heap.size _ (m - k) (c - k) (edgs (es.drop k)) (by rfl) (RE.cut (RE.below h hb2 (Nat.le_refl _)) hk hmc) (edgs_one _) (by unfold maxLen; omega) (by omega) (Nat.le_trans hs1 hb2c.size) ?_; intro v3 w3 hown3 hg3 hat3; have hb3c := below_own hb2c hg3 (Nat.le_trans hs1 hb2c.size) (own_block hown2))))
        have hb3 := BV1.trans (hb3c.mono (Nat.le_succ _))
        have hfin : RetW w (some ad) (withL es (x, y)) (.returned v3) w3 := by
          obtain ⟨A2, c2, rfl, hc2, _⟩ := own_form hown3
          have hfr := own_fresh hown3
          have hrd := Reads.of_own hown3
          simp only [Nat.zero_add, List.nil_append] at hrd hc2
          rw [← edgs_append, ← edgs_append, ← hh.out] at hrd
          refine ⟨A2, _, c2, rfl, by omega, ?_, hb3, .inr (hfr.mono (Nat.le_succ _))⟩
          unfold RE
          rw [Nat.zero_add]
          exact hrd
        replace hfin := Lib.hid hfin
        go_wp2_with fail
        go_ret
        exact hfin.out
    · have hh := Lib.hid (with_end hx.out (by rw [hl.out]; omega))
      have q0 : decide ((k : Int) < (m : Int)) = false := by simp; omega
      have hs9 : w.heap.size + 1 ≤ wr.heap.size := hel
      clear e0 e1
      go_wp2_with fail
      go_quiet (fail)
      go_wp2_with fail
      go_quiet (fail)
      go_wp2_with (at_builtin; refine wpList_append_any _ rfl _ _ 25 rfl (w.heap.size + 1) 63 i0 _ 2 16 Tryd.underlying25 hi0 hz0 hz1 hz2 rfl (by omega) (.slice none 0 0) 0 [] rfl (World.ownsRow_nil _ _ _ _) _ _ k c (edgs (es.take k)) rfl (RE.head (hrw.drewN _) hk) (edgs_one _) (by unfold maxLen; omega) (by omega) hs9 ?_; intro v1 w1 hown1 hg1 hat1)
      have hb1 : Below (w.heap.size + 1) wr w1 := (below_drewN (Below.refl _ wr) _).trans (below_own (Below.refl _ _) hg1 hs9 (fun k hk => by simp [Value.ownBlock] at hk))
      have hE1 := hE'.below hb1 (Nat.lt_succ_self _)
      have BV1 := hb.trans (hb1.mono (Nat.le_succ _))
      have e0 := Blk.cell hE1 0
      have e1 := Blk.cell hE1 1
      simp at e0 e1
      have hs1 : w.heap.size + 1 ≤ w1.heap.size := Nat.le_trans hs9 hb1.size
      have hbv := own_block hown1
      go_region_held3 (fun w' => w'.cell? ⟨w.heap.size, 0, none⟩ = some (.int .i64 x) ∧ w'.cell? ⟨w.heap.size, 1, none⟩ = some (.int .i64 y)) ((first | (exact ⟨(hb3c.cell (p := ⟨w.heap.size, 0, none⟩) (Nat.lt_succ_self _)).trans e0, (hb3c.cell (p := ⟨w.heap.size, 1, none⟩) (Nat.lt_succ_self _)).trans e1⟩) | (exact ⟨(hb2c.cell (p := ⟨w.heap.size, 0, none⟩) (Nat.lt_succ_self _)).trans e0, (hb2c.cell (p := ⟨w.heap.size, 1, none⟩) (Nat.lt_succ_self _)).trans e1⟩) | ((repeat' apply And.intro) <;> (go_keep; done)))) ((first | (refine step_append_any _ (by rfl) (.tmp 38) (.tmp 40) 25 (by rfl) (w.heap.size + 1) 63 i0 _ 2 16 Tryd.underlying25 hi0 hz0 hz1 hz2 rfl (by omega) v1 (0 + k) ([] ++ edgs (es.take k)) (by rfl) ((hown1.alloc _).drew) _ (some ⟨w1.heap.size, 0, none⟩) 1 1 (edgs [(x, y)]) (by rfl) (Reads.drew (news_edge w1 63 x y)) (edgs_one _) (by unfold maxLen; omega) (by omega) (by simp; omega) ?_; intro v2 w2 hown2 hg2 hat2; have hb2c := below_own (((Below.refl _ w1).alloc hs1 _).drew) hg2 (Nat.le_trans hs1 (by simp)) hbv; have hb2 := BV1.trans (hb2c.mono (Nat.le_succ _))) | (refine step_append_any _ (by rfl) (.tmp 41) (.tmp 44) 25 (by rfl) (w.heap.size + 1) 63 i0 _ 2 16 Tryd.underlying25 hi0 hz0 hz1 hz2 rfl (by omega) v2 _ _ (by rfl) hown2 w2.heap.size _ (m - k) (c - k) (edgs (es.drop k)) (by rfl) (RE.cut (RE.below h hb2 (Nat.le_refl _)) hk hmc) (edgs_one _) (by unfold maxLen; omega) (by omega) (Nat.le_trans hs1 hb2c.size) ?_; intro v3 w3 hown3 hg3 hat3; have hb3c := below_own hb2c hg3 (Nat.le_trans hs1 hb2c.size) (own_block hown2))))
      have hb3 := BV1.trans (hb3c.mono (Nat.le_succ _))
      have hfin : RetW w A (withL es (x, y)) (.returned v3) w3 := by
        obtain ⟨A2, c2, rfl, hc2, _⟩ := own_form hown3
        have hfr := own_fresh hown3
        have hrd := Reads.of_own hown3
        simp only [Nat.zero_add, List.nil_append] at hrd hc2
        rw [← edgs_append, ← edgs_append, ← hh.out] at hrd
        refine ⟨A2, _, c2, rfl, by omega, ?_, hb3, .inr (hfr.mono (Nat.le_succ _))⟩
        unfold RE
        rw [Nat.zero_add]
        exact hrd
      replace hfin := Lib.hid hfin
      go_wp2_with fail
      all_goals go_ret
      all_goals exact hfin.out
end Go.Proofs.YtfefginhlliccaaDoor

namespace Go.Proofs.YtfefginhlliccaaDoor
open Go.RowKit

theorem nbG_len (n : Int) (es : List (Int × Int)) (x : Int) : (nbG n es x).length ≤ 2 * es.length := by
  unfold nbG
  split
  · exact Nat.le_trans (of_length _) (nbl_length es x)
  · simp
/-- What Common returns. -/
def comL (n : Int) (es : List (Int × Int)) (u v : Int) : List Int := if u = v then [] else meetL (nbG n es u) (nbG n es v)
set_option maxRecDepth 100000 in
set_option maxHeartbeats 2000000 in
theorem rcommon_any (A : Option Addr) (m c : Nat) (n : Int) (es : List (Int × Int)) (u v : Int) (w : World) (h : RE w A m es) (hm : m ≤ 274877906944) :
    Calls Tryd.prog 15 #[.agg #[.int .i64 n, .slice A m c], .int .i64 u, .int .i64 v] w (RetI w (comL n es u v)) := by
  by_cases huv : u = v
  · subst huv
    have hv : comL n es u u = [] := if_pos rfl
    rw [hv]
    clear hv
    go_enter Tryd.func15, Tryd.ntmps15
    go_wp2_with fail
    go_ret
    exact RetI.mk_ (Nat.le_refl _) RI.none_ ((Below.refl _ _).alloc (Nat.le_refl _) _) Fr.none_
  · have hv : comL n es u v = meetL (nbG n es u) (nbG n es v) := if_neg huv
    have hq : (u == v) = false := by rw [beq_eq_false_iff_ne]; exact huv
    rw [hv]
    clear hv huv
    have hl1 := nbG_len n es u
    have hl2 := nbG_len n es v
    rw [h.len] at hl1 hl2
    have k1 := fun w h => neigh_any A m c n es u w h hm
    have k2 := fun w h => neigh_any A m c n es v w h hm
    have k3 := fun A1 n1 c1 A2 n2 c2 w h1 h2 h3 h4 => meet_any A1 A2 n1 c1 n2 c2 (nbG n es u) (nbG n es v) w h1 h2 h3 h4
    generalize nbG n es u = L1 at *
    generalize nbG n es v = L2 at *
    replace k1 := Lib.hid k1
    replace k2 := Lib.hid k2
    replace k3 := Lib.hid k3
    go_enter Tryd.func15, Tryd.ntmps15
    go_wp2_with fail
    have hG := Blk.new w 27 #[.int .i64 n, .slice A m c]
    have hb0 : Below w.heap.size w (w.alloc (.cells #[.int .i64 n, .slice A m c] 27)) := (Below.refl _ _).alloc (Nat.le_refl _) _
    generalize w.alloc (.cells #[.int .i64 n, .slice A m c] 27) = w0 at *
    have g0 := Blk.cell hG 0
    have g1 := Blk.cell hG 1
    simp at g0 g1
    have hgl := hG.lt
    have BN : Below w0.heap.size w0 w0 := Below.refl _ _
    have hs0 := hb0.size
    have hre := RE.below h hb0 (Nat.le_refl _)
    go_region_held3 (fun w' => w'.cell? ⟨w.heap.size, 0, none⟩ = some (.int .i64 n) ∧ w'.cell? ⟨w.heap.size, 1, none⟩ = some (.slice A m c))
      ((first | (exact ⟨(BN.cell (p := ⟨w.heap.size, 0, none⟩) hgl).trans g0, (BN.cell (p := ⟨w.heap.size, 1, none⟩) hgl).trans g1⟩) | ((repeat' apply And.intro) <;> (go_keep; done))))
      ((first
        | (go_at_call 44; (with_reducible refine (k1.out _ (by first | exact hre.drew | exact hre.below BN (Nat.le_refl _) | exact (hre.below BN (Nat.le_refl _)).drew)).mono ?_); rintro e w4 ⟨A4, n4, c4, rfl, hc4, hr4, hb4, hf4⟩; replace BN : Below w0.heap.size w0 w4 := (by first | exact below_call BN hb4 | exact below_call BN.drew hb4); try (replace hr5 := RI.below hr5 hb4 (Nat.le_refl _)))
        | (go_at_call 44; (with_reducible refine (k2.out _ (by first | exact hre.drew | exact hre.below BN (Nat.le_refl _) | exact (hre.below BN (Nat.le_refl _)).drew)).mono ?_); rintro e w5 ⟨A5, n5, c5, rfl, hc5, hr5, hb5, hf5⟩; replace BN : Below w0.heap.size w0 w5 := (by first | exact below_call BN hb5 | exact below_call BN.drew hb5); try (replace hr4 := RI.below hr4 hb5 (Nat.le_refl _)))
        | (go_at_call 14; (with_reducible refine (k3.out _ _ _ _ _ _ _ hr4 (by have := hr4.len; omega) hr5 (by have := hr5.len; omega)).mono ?_); rintro e w6 ⟨A6, n6, c6, rfl, hc6, hr6, hb6, hf6⟩; have hf7 : Fr w.heap.size A6 := hf6.mono (Nat.le_trans hs0 BN.size); replace BN : Below w0.heap.size w0 w6 := below_call BN hb6)))
    go_wp2_with fail
    go_ret
    exact RetI.mk_ hc6 hr6 (hb0.trans (BN.mono hs0)) hf7
/-- The edges within a set. -/
def indL (es : List (Int × Int)) (l : List Int) : List (Int × Int) := es.filter fun e => decide (e.1 ∈ l ∧ e.2 ∈ l)
theorem indL_take {es : List (Int × Int)} {k : Nat} {x : Int × Int} {l : List Int} (h : es[k]? = some x) : indL (es.take (k + 1)) l = if x.1 ∈ l ∧ x.2 ∈ l then indL (es.take k) l ++ [x] else indL (es.take k) l := by
  rw [takeE h]
  unfold indL
  rw [List.filter_append]
  by_cases hx : x.1 ∈ l ∧ x.2 ∈ l
  · rw [if_pos hx]; simp [hx]
  · rw [if_neg hx]
    simp only [List.filter_cons, List.filter_nil, decide_eq_true_eq]
    rw [if_neg hx, List.append_nil]
theorem indL_len (es : List (Int × Int)) (l : List Int) : (indL es l).length ≤ es.length := List.length_filter_le _ _

end Go.Proofs.YtfefginhlliccaaDoor
