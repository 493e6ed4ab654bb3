/- The law CliquecountBeside: two graphs beside each other, walked. -/
import Derived.Test.YtknlmgcbdcepnaaDoorLwbA
import Derived.StillTailTactics
set_option linter.unusedVariables false
set_option linter.unusedSimpArgs false
namespace Go.Proofs.YtknlmgcbdcepnaaDoor
open Go.RowKit CoBit CoCli

theorem besL_take {N : Nat} {a b : List (Int × Int)} {k : Nat} {x y : Int} (h : b[k]? = some (x, y)) : besL N a (b.take (k + 1)) = besL N a (b.take k) ++ [(x + (N : Int), y + (N : Int))] := by
  unfold besL
  rw [takeE h, List.map_append, List.append_assoc]; rfl
theorem besL_len (N : Nat) (a b : List (Int × Int)) : (besL N a b).length = a.length + b.length := by simp [besL]
/-- append of a list of edges. -/
theorem wpList_catE {ops : Array Oper} {rest : List Oper} {o : Oper} {a : Act} {Q : Exit → Act → World → Prop} {w : World} {B : Nat} {v : Value} {es fs : List (Int × Int)} {A : Option Addr} {m c : Nat}
    (hgd : o.guard = none) (s x : Operand) (ho : o.op = .call { callee := .builtin .append, args := #[s, x], argTypes := #[22, 22] })
    (hs : a.eval s = v) (hx : a.eval x = .slice A m c) (hown : OE w B v es) (hr : RE w A m fs) (hn : es.length + m ≤ 1099511627776) (hB : B ≤ w.heap.size)
    (h : ∀ v' w', OE w' B v' (es ++ fs) → Below B w w' → w.grownBy w' v.ownBlock → wpList Tryd.prog ops Q rest (a.put o.dst v') w') :
    wpList Tryd.prog ops Q (o :: rest) a w := by
  obtain ⟨i0, hi0, hz0, hz1, hz2⟩ := info_parts edge_info
  refine wpList_append_any _ hgd s x _ ho B 59 i0 _ 2 16 Tryd.underlying22 hi0 hz0 hz1 hz2 rfl (by omega) v es.length (edgs es) hs hown _ _ m c (edgs fs) hx hr (edgs_one _) (by unfold maxLen; omega) (by omega) hB ?_
  intro v' w' h1 h2 _
  refine h v' w' ?_ (below_own (Below.refl _ _) h2 hB (own_block hown)) h2
  unfold OE
  rw [List.length_append, edgs_append, hr.len]; exact h1

set_option maxRecDepth 100000 in
set_option maxHeartbeats 8000000 in
theorem beside_any (A1 : Option Addr) (m1 c1 : Nat) (N : Nat) (a : List (Int × Int)) (A2 : Option Addr) (m2 c2 : Nat) (M : Nat) (b : List (Int × Int)) (w : World) (h1 : RE w A1 m1 a) (h2 : RE w A2 m2 b) (hm1 : m1 ≤ 4096) (hm2 : m2 ≤ 4096) (ha : Srt N a) (hb : Srt M b) (hN : N + M ≤ 64) :
    Calls Tryd.prog 22 #[.agg #[.int .i64 N, .slice A1 m1 c1], .agg #[.int .i64 M, .slice A2 m2 c2]] w fun e w' => ∃ A m c, e = .returned (.agg #[.int .i64 ((N + M : Nat) : Int), .slice A m c]) ∧ m ≤ c ∧ RE w' A m (putsL (besL N a b)) ∧ Below w.heap.size w w' := by
  have hl1 := h1.len
  have hl2 := Lib.hid h2.len
  have hsrb := Lib.hid hb.1
  have kof := fun A m c hm w h => rof_any (N + M) hN A m c (besL N a b) w h hm (besL_ends ha hb)
  have hbl := besL_len N a b
  replace kof := Lib.hid kof
  replace hbl := Lib.hid hbl
  replace hl1 := Lib.hid hl1
  clear ha hb
  obtain ⟨i0, hi0, hz0, hz1, hz2⟩ := info_parts edge_info
  go_enter Tryd.func22, Tryd.ntmps22
  go_wp2_with (at_builtin; refine wpList_catE (B := w.heap.size + 3) rfl _ _ rfl rfl rfl OE.nil_ (((h1.alloc _).alloc _).alloc _) (by simp; omega) (by simp) ?_; intro v1 w1 ho1 hb1 hg1)
  simp only [List.nil_append] at ho1
  have G1 : Blk w1 w.heap.size 24 #[.int .i64 N, .slice A1 m1 c1] := Blk.below (Blk.alloc (Blk.alloc (Blk.new _ _ _) _) _) hb1 (by omega)
  have G2 : Blk w1 (w.heap.size + 1) 24 #[.int .i64 M, .slice A2 m2 c2] := Blk.below (Blk.alloc (Blk.new' _ _ _ (by simp)) _) hb1 (by omega)
  have R1 : Blk w1 (w.heap.size + 2) 24 #[.int .i64 0, .slice none 0 0] := Blk.below (Blk.new' _ _ _ (by simp)) hb1 (by omega)
  have hb0 : Below w.heap.size w w1 := ((((Below.refl _ _).alloc (Nat.le_refl _) _).alloc (by simp) _).alloc (by simp; omega) _).trans (hb1.mono (by omega))
  have s1 := hb1.size
  simp at s1
  have ho0 : OE w1 (w.heap.size + 3) v1 (besL N a (b.take 0)) := by simpa [besL] using ho1
  clear hb1 hg1 ho1
  obtain ⟨b1, hb1⟩ : ∃ b1, b1 = w.heap.size + 1 := ⟨_, rfl⟩
  obtain ⟨b2, hb2⟩ : ∃ b2, b2 = w.heap.size + 2 := ⟨_, rfl⟩
  have hb2' : w.heap.size + 1 + 1 = b2 := by omega
  rw [hb2', ← hb1]
  rw [← hb1] at G2
  rw [← hb2] at R1
  have x1 : w.heap.size < b1 := by omega
  have x2 : b1 < b2 := by omega
  have x3 : w.heap.size + 3 = b2 + 1 := by omega
  rw [x3] at ho0 s1
  clear hb1 hb2 hb2' x3
  go_loopw [5, 6] (fun v i wr => ∃ (k : Nat), k ≤ m2 ∧ i = .int .i64 k ∧ OE wr (b2 + 1) v (besL N a (b.take k)) ∧ Blk wr w.heap.size 24 #[.int .i64 N, .slice A1 m1 c1] ∧ Blk wr b1 24 #[.int .i64 M, .slice A2 m2 c2] ∧ Blk wr b2 24 #[.int .i64 0, .slice none 0 0] ∧ Below w.heap.size w wr) (fun _ i _ => m2 - (intOf i).toNat)
  case atStart => exact ⟨0, Nat.zero_le _, rfl, ho0, G1, G2, R1, hb0⟩
  case round =>
    obtain ⟨k, hk, rfl, ho, H1, H2, HR, hb⟩ := hrel
    clear ho0 G1 G2 R1 hb0 s1
    have c0 := Blk.cell H1 0
    have c1' := Blk.cell H2 1
    simp at c0 c1'
    have hlr := HR.lt
    by_cases hlt : k < m2
    · obtain ⟨ad, x, y, rfl, hbl, hy, hc1, hc2⟩ := h2.get hlt
      have M2 : (ad.add (k * 2)).block < w.heap.size := by rw [block_of_add]; exact hbl
      replace hc1 := (hb.cell (p := ad.add (k * 2)) M2).trans hc1
      replace hc2 := (hb.cell (p := ⟨(ad.add (k * 2)).block, (ad.add (k * 2)).off + 1, none⟩) M2).trans hc2
      have L0 : w.heap.size < b2 + 1 := by omega
      have L1 : b1 < b2 + 1 := by omega
      have L2 : (ad.add (k * 2)).block < b2 + 1 := by omega
      have M0 : w.heap.size < wr.heap.size := by omega
      have M1 : b1 < wr.heap.size := by omega
      replace M2 : (ad.add (k * 2)).block < wr.heap.size := by omega
      have hbd := hsrb.out (x, y) (List.mem_of_getElem? hy.out)
      simp only at hbd
      obtain ⟨y1, y2, y3⟩ := hbd
      have hst := Lib.hid (besL_take (N := N) (a := a) hy.out)
      have hln : (besL N a (b.take k)).length ≤ 1000000 := by rw [besL_len, hl1.out, List.length_take]; omega
      have f1 : IntKind.i64.wrap (x + (N : Int)) = x + (N : Int) := IntWalk.i64_in _ ⟨by omega, by omega⟩
      have f2 : IntKind.i64.wrap (y + (N : Int)) = y + (N : Int) := IntWalk.i64_in _ ⟨by omega, by omega⟩
      have j0 : (0 : Int) ≤ (k : Int) := Int.natCast_nonneg _
      have j1 : (k : Int) < (m2 : Int) := by omega
      generalize besL N a (b.take k) = L at *
      go_wp2_with fail
      go_region_held3 (fun w' => w'.cell? ⟨w.heap.size, 0, none⟩ = some (.int .i64 N) ∧ w'.cell? ⟨b1, 1, none⟩ = some (.slice (some ad) m2 c2) ∧ w'.cell? (ad.add (k * 2)) = some (.int .i64 x) ∧ w'.cell? ⟨(ad.add (k * 2)).block, (ad.add (k * 2)).off + 1, none⟩ = some (.int .i64 y))
        ((first
          | (exact ⟨(hb4.cell (p := ⟨w.heap.size, 0, none⟩) L0).trans c0, (hb4.cell (p := ⟨b1, 1, none⟩) L1).trans c1', (hb4.cell (p := ad.add (k * 2)) L2).trans hc1, (hb4.cell (p := ⟨(ad.add (k * 2)).block, (ad.add (k * 2)).off + 1, none⟩) L2).trans hc2⟩)
          | (exact ⟨(World.cell?_alloc_lt _ _ _ M0).trans c0, (World.cell?_alloc_lt _ _ _ M1).trans c1', (World.cell?_alloc_lt _ _ _ M2).trans hc1, (World.cell?_alloc_lt _ _ _ M2).trans hc2⟩)
          | ((repeat' apply And.intro) <;> (go_keep; done))))
        ((first | (refine step_append_any _ (by rfl) (.tmp 19) (.tmp 39) 22 (by rfl) (b2 + 1) 59 i0 _ 2 16 Tryd.underlying22 hi0 hz0 hz1 hz2 rfl (by omega) u5 L.length (edgs L) (by rfl) ((ho.alloc _).drew) _ (some ⟨wr.heap.size, 0, none⟩) 1 1 (edgs [(x + (N : Int), y + (N : Int))]) (by rfl) (Reads.drew (news_edge wr 59 (x + (N : Int)) (y + (N : Int)))) (edgs_one _) (by unfold maxLen; omega) (by omega) (by simp; omega) ?_; intro v' w4 h1' hg4 hat4; have hb4 : Below (b2 + 1) wr w4 := below_own (((Below.refl _ wr).alloc hlr _).drew) hg4 (Nat.le_trans hlr (by simp)) (own_block ho))))
      have ho' : OE w4 (b2 + 1) v' (L ++ [(x + (N : Int), y + (N : Int))]) := by
        unfold OE
        rw [List.length_append, edgs_append]; exact h1'
      clear c0 c1' hc1 hc2 f1 f2
      go_wp2_with fail
      go_roundw
      case rel => exact ⟨k + 1, by omega, by go_num, by rw [hst.out]; exact ho', H1.below hb4 (by omega), H2.below hb4 (by omega), HR.below hb4 (by omega), hb.trans (hb4.mono (by omega))⟩
      case measure => simp [intOf]; omega
    · have hall : besL N a (b.take k) = besL N a b := by rw [List.take_of_length_le (by rw [hl2.out]; omega)]
      rw [hall] at ho
      obtain ⟨A4, n4, m4, rfl, hn4, hm4, hc4, hr4, hf4⟩ := ho.form
      have hn4' : n4 ≤ 1073741824 := by rw [hn4, hbl.out, hl1.out, hl2.out]; omega
      have c2' := Blk.cell H2 0
      simp at c2'
      have hs := hb.size
      clear hn4 hall ho
      go_wp2_with fail
      refine (kof.out A4 n4 m4 hn4' _ hr4).mono ?_
      rintro e w5 ⟨A5, n5, c5, rfl, hc5, hr5, hb5, hf5⟩
      have H5 := HR.below hb5 HR.lt
      have r0 := Blk.cell H5 0
      have r1 := Blk.cell H5 1
      simp at r0 r1
      have f0 := Blk.frozen H5 0
      have f1 := Blk.frozen H5 1
      have hlt5 := H5.lt
      have hne5 : ¬ (b2 = w5.heap.size) := by omega
      have hne6 : ¬ (w5.heap.size = b2) := by omega
      have hf8 : ∀ ad, A5 = some ad → some ad.block ≠ some b2 := fun ad h e => by have := hf5 ad h; injection e with e; omega
      generalize hTT : ((N + M : Nat) : Int) = T at *
      replace hTT := Lib.hid hTT
      have hrf := RE.kept hr5 (grown_set (grown_set (World.grownBy.refl w5 (some b2)) 0 (.int .i64 T)) 1 (.slice A5 n5 c5)) hf8
      have hRf := Blk.set (Blk.set H5 0 (.int .i64 T)) 1 (.slice A5 n5 c5)
      simp at hRf
      have hbf := ((hb.trans (hb5.mono hs)).setCell (p := ⟨b2, 0, none⟩) (by simp; omega) (.int .i64 T)).setCell (p := ⟨b2, 1, none⟩) (by simp; omega) (.slice A5 n5 c5)
      have s0 := Blk.cell (hRf.alloc (.cells #[.int .i64 T, .slice A5 n5 c5] 24)) 0
      have s1 := Blk.cell (hRf.alloc (.cells #[.int .i64 T, .slice A5 n5 c5] 24)) 1
      simp at s0 s1
      have hfin := Lib.hid (⟨A5, n5, c5, rfl, hc5, hrf.alloc _, hbf.alloc (by simp; omega) _⟩ : ∃ A m c, Ending.returned (.agg #[.int .i64 T, .slice A5 n5 c5]) = .returned (.agg #[.int .i64 T, .slice A m c]) ∧ m ≤ c ∧ RE (((w5.setCell ⟨b2, 0, none⟩ (.int .i64 T)).setCell ⟨b2, 1, none⟩ (.slice A5 n5 c5)).alloc (.cells #[.int .i64 T, .slice A5 n5 c5] 24)) A m (putsL (besL N a b)) ∧ Below w.heap.size w (((w5.setCell ⟨b2, 0, none⟩ (.int .i64 T)).setCell ⟨b2, 1, none⟩ (.slice A5 n5 c5)).alloc (.cells #[.int .i64 T, .slice A5 n5 c5] 24)))
      clear hb5 hb hr5 hf5 hf8 H5 HR H1 H2 hr4 hf4 c0 c1' c2' hrf hRf hbf
      go_wp2_with fail
      refine bodyPost_ret (v := .agg #[.int .i64 T, .slice A5 n5 c5]) (by simp [results, Tryd.results22, go_sem, s0, s1]) rfl ?_
      rw [hTT.out]
      exact hfin.out
end Go.Proofs.YtknlmgcbdcepnaaDoor
