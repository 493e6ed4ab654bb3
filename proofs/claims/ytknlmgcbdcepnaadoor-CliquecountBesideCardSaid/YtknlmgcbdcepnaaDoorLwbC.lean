/- The law CliquecountBeside: its walk. -/
import Derived.Test.YtknlmgcbdcepnaaDoorLwbB
import Derived.Test.YtknlmgcbdcepnaaDoorLweB
set_option linter.unusedVariables false
set_option linter.unusedSimpArgs false
namespace Go.Proofs.YtknlmgcbdcepnaaDoor
open Go.RowKit CoBit CoCli

section
variable {P : Program} (w : World)
theorem step_append_g {ops : Array Oper} {o : Oper} {a : Act} {K : Act → World → Prop} {Q : Exit → Act → World → Prop} {E : Prop} (hw : Region.wanted o (yielded ops a.tmps) = true) (s x : Operand) (t : TypeId)
    (ho : o.op = .call { callee := .builtin .append, args := #[s, x], argTypes := #[t, t] })
    (base : Nat) (e : TypeId) (i : TypeInfo) (z : Value) (size bytes : Nat) (ht : P.underlying t = some (.slice e)) (hi : P.info? e = some i) (hz : i.zero = some z)
    (hsize : i.size = size) (hby : i.bytes = bytes) (hzs : z.cells.size = size) (hsz : 0 < size)
    (v : Value) (n : Nat) (xs : List Value) (hs : a.eval s = v) (hown : w.ownsRow base e size v n xs)
    (B : Nat) (A : Option Addr) (m c : Nat) (news : List Value) (hx : a.eval x = .slice A m c) (hr : Reads w B size A m news) (h1 : ∀ u ∈ news, u.oneCell' = true)
    (h63 : n + m ≤ maxLen) (hbytes : (n + m) * bytes ≤ 140737488355328) (hbase : base ≤ w.heap.size)
    (h : ∀ v' w', w'.ownsRow base e size v' (n + m) (xs ++ news) → w.grownBy w' v.ownBlock → (v'.ownBlock = v.ownBlock ∨ v'.ownBlock = some w.heap.size) → K (a.put o.dst v') w') :
    if Region.wanted o (yielded ops a.tmps) = true then Oper.wp P o a w K Q else E := by
  rw [if_pos hw]
  exact wp_append_any w s x t ho base e i z size bytes ht hi hz hsize hby hzs hsz v n xs hs hown B A m c news hx hr h1 h63 hbytes hbase h
end
theorem mk_len {N : Nat} {a : List (Int × Int)} (h : Srt N a) (hN : N ≤ 6) : a.length ≤ 36 := by
  have h1 := srt_len h
  have : N * N ≤ 6 * 6 := Nat.mul_le_mul hN hN
  omega
/-- What the law compares. -/
structure BesF (N M k : Nat) (a b : List (Int × Int)) (X Y : Nat) : Prop where
  za : chkG N a = 0
  zb : chkG M b = 0
  zc : chkG ((N + M : Nat) : Int) (putsL (besL N a b)) = 0
  x : (cntL N a (k + 1))[k]? = some (X : Int)
  y : (cntL M b (k + 1))[k]? = some (Y : Int)
  z : (cntL (N + M) (putsL (besL N a b)) (k + 1))[k]? = some ((X + Y : Nat) : Int)
  n : nodL (N + M) (putsL (besL N a b)) k = nodL N a k ++ nodL M b k
  bd : X ≤ 281474976710656 ∧ Y ≤ 281474976710656
  ln : (putsL (besL N a b)).length ≤ 72
theorem besF {N M k : Nat} {a b : List (Int × Int)} (ha : Srt N a) (hb : Srt M b) (hN : N ≤ 6) (hM : M ≤ 6) (hk : k ≤ 5) : ∃ X Y, BesF N M k a b X Y := by
  refine ⟨_, _, chk_of_srt ha (by omega) (by omega), chk_of_srt hb (by omega) (by omega), bes_chk ha hb (by omega), cntL_at (by omega), cntL_at (by omega), ?_, bes_nod ha hb (by omega) k, ⟨cl_bdn _ (by omega) (by omega), cl_bdn _ (by omega) (by omega)⟩, ?_⟩
  · rw [cntL_at (by omega), bes_cl ha hb (by omega)]
  · have h1 := putsL_len (besL N a b)
    rw [besL_len] at h1
    have h2 := mk_len ha hN
    have h3 := mk_len hb hM
    omega

set_option maxRecDepth 100000 in
set_option maxHeartbeats 20000000 in
theorem lawBeside_any (A0 : Option Addr) (m0 c0 : Nat) (l : List Int) (sz : Nat) (hsz : sz < 256) (w : World) (hT : Tab w) (h0 : RI w A0 m0 l) (hmc : m0 ≤ c0) (hm0 : m0 ≤ 1152921504606846976) :
    Calls Tryd.prog 5 #[.slice A0 m0 c0, .int .u8 sz] w fun e w' => e = .returned (.bool true) ∧ Below w.heap.size w w' := by
  have kf := fun w => few_any A0 m0 c0 w
  by_cases hfew : m0 ≤ 500
  · have hv : decide (m0 ≤ 500) = true := by simpa using hfew
    rw [hv] at kf
    replace kf := Lib.hid kf
    clear hv hfew
    obtain ⟨k, hk⟩ : ∃ k, k = sz % 6 := ⟨_, rfl⟩
    have hk5 : k ≤ 5 := by omega
    obtain ⟨S, hS⟩ : ∃ S : Int, S = ((k + 1 : Nat) : Int) := ⟨_, rfl⟩
    have es0 : (1 : Int) + (sz : Int) % 6 = S := by omega
    have S1 : 1 ≤ S := by omega
    have S6 : S ≤ 6 := by omega
    replace hS := Lib.hid hS
    clear hk
    go_enter Tryd.func5, Tryd.ntmps5
    go_wp2_with fail
    refine (kf.out _).mono ?_
    rintro e w1 ⟨rfl, rfl⟩
    go_wp2_with fail
    refine (new_any A0 m0 c0 l w h0 hmc hm0).mono ?_
    rintro e w1 ⟨rfl, hd1, hb1, hs1⟩
    go_wp2_with fail
    refine (mkgraph_any _ 6 _ hd1 (by omega)).mono ?_
    rintro e w2 ⟨N, a, A1, m1, c1, rfl, hmc1, hr2, hf2, hsa, hN6, hd2, hg2⟩
    have hb2 : Below w.heap.size w w2 := hb1.grown hg2 (by omega) (fun k hk => by injection hk with hk; omega)
    have hs2 := hg2.size
    go_wp2_with fail
    refine (mkgraph_any _ 6 _ hd2 (by omega)).mono ?_
    rintro e w3 ⟨M, b, A2, m2, c2, rfl, hmc2, hr3, hf3, hsb, hM6, hd3, hg3⟩
    have R1 := hr2.kept hg3 (fun ad h e => by have := hf2 ad h; injection e with e; omega)
    have hb3 : Below w.heap.size w w3 := hb2.grown hg3 (by omega) (fun k hk => by injection hk with hk; omega)
    have hs3 := hb3.size
    have hl1 := mk_len hsa hN6
    have hl2 := mk_len hsb hM6
    rw [R1.len] at hl1
    rw [hr3.len] at hl2
    obtain ⟨X, Y, hF⟩ := besF hsa hsb hN6 hM6 hk5
    have ka := fun w hT h => nodes_any A1 m1 c1 N S a w hT h (by omega)
    have kb := fun w hT h => nodes_any A2 m2 c2 M S b w hT h (by omega)
    have kc := fun A m c hm w hT h => nodes_any A m c ((N + M : Nat) : Int) S (putsL (besL N a b)) w hT h hm
    have kx := fun w hT h => counts_any A1 m1 c1 N S a w hT h (by omega)
    have ky := fun w hT h => counts_any A2 m2 c2 M S b w hT h (by omega)
    have kz := fun A m c hm w hT h => counts_any A m c ((N + M : Nat) : Int) S (putsL (besL N a b)) w hT h hm
    have kbs := fun w h1 h2 => beside_any A1 m1 c1 N a A2 m2 c2 M b w h1 h2 (by omega) (by omega) hsa hsb (by omega)
    rw [hS.out, nods_ok hF.za (by omega), errC_ok hF.za (by omega) (by omega)] at ka
    rw [hS.out, nods_ok hF.zb (by omega), errC_ok hF.zb (by omega) (by omega)] at kb
    rw [hS.out, nods_ok hF.zc (by omega), errC_ok hF.zc (by omega) (by omega), hF.n] at kc
    rw [hS.out, cnts_ok hF.za (by omega) (by omega), errC_ok hF.za (by omega) (by omega)] at kx
    rw [hS.out, cnts_ok hF.zb (by omega) (by omega), errC_ok hF.zb (by omega) (by omega)] at ky
    rw [hS.out, cnts_ok hF.zc (by omega) (by omega), errC_ok hF.zc (by omega) (by omega)] at kz
    rw [← hS.out] at ka kb kc kx ky kz
    rw [Int.natCast_add] at kc kz
    simp only [Int.natCast_add] at kbs
    have fx := hF.x
    have fy := hF.y
    have fz := hF.z
    have fbd := hF.bd
    have fln := hF.ln
    have l1 := cnts_len (n := N) (es := a) (k := k + 1)
    have l2 := cnts_len (n := M) (es := b) (k := k + 1)
    have l3 := cnts_len (n := N + M) (es := putsL (besL N a b)) (k := k + 1)
    have l4 := nodL_length N a k
    have l5 := nodL_length M b k
    generalize cntL N a (k + 1) = La' at *
    generalize cntL M b (k + 1) = Lb' at *
    generalize cntL (N + M) (putsL (besL N a b)) (k + 1) = Lc' at *
    generalize nodL N a k = Na at *
    generalize nodL M b k = Nb at *
    generalize putsL (besL N a b) = ec at *
    replace ka := Lib.hid ka
    replace kb := Lib.hid kb
    replace kc := Lib.hid kc
    replace kx := Lib.hid kx
    replace ky := Lib.hid ky
    replace kz := Lib.hid kz
    replace kbs := Lib.hid kbs
    replace fx := Lib.hid fx
    replace fy := Lib.hid fy
    replace fz := Lib.hid fz
    replace l1 := Lib.hid l1
    replace l2 := Lib.hid l2
    replace l3 := Lib.hid l3
    replace l4 := Lib.hid l4
    replace l5 := Lib.hid l5
    clear hF hsa hsb hg3 hg2 hd1 hd2 hd3 hb1 hs1 hr2 hf2 hf3 hb2 hs2
    go_wp2_with fail
    have H1 : Blk ((w3.alloc (.cells #[.int .i64 N, .slice A1 m1 c1] 24)).alloc (.cells #[.int .i64 M, .slice A2 m2 c2] 24)) w3.heap.size 24 #[.int .i64 N, .slice A1 m1 c1] := Blk.alloc (Blk.new _ _ _) _
    have H2 : Blk ((w3.alloc (.cells #[.int .i64 N, .slice A1 m1 c1] 24)).alloc (.cells #[.int .i64 M, .slice A2 m2 c2] 24)) (w3.heap.size + 1) 24 #[.int .i64 M, .slice A2 m2 c2] := Blk.new' _ _ _ (by simp)
    replace R1 := (R1.alloc (.cells #[.int .i64 N, .slice A1 m1 c1] 24)).alloc (.cells #[.int .i64 M, .slice A2 m2 c2] 24)
    have R2 := (hr3.alloc (.cells #[.int .i64 N, .slice A1 m1 c1] 24)).alloc (.cells #[.int .i64 M, .slice A2 m2 c2] 24)
    have BW := (hb3.alloc hs3 (.cells #[.int .i64 N, .slice A1 m1 c1] 24)).alloc (by simp; omega) (.cells #[.int .i64 M, .slice A2 m2 c2] 24)
    clear hb3 hr3
    generalize (w3.alloc (.cells #[.int .i64 N, .slice A1 m1 c1] 24)).alloc (.cells #[.int .i64 M, .slice A2 m2 c2] 24) = w4 at *
    obtain ⟨d0, d1⟩ := blkG H1
    obtain ⟨e0, e1⟩ := blkG H2
    go_wp2_with fail
    (with_reducible refine (ka.out _ (hT.keep BW) R1).mono ?_)
    rintro e w5 ⟨A_a, n_a, c_a, rfl, hc_a, La, hb_w5, hf_a⟩
    replace H1 := H1.below hb_w5 H1.lt
    replace H2 := H2.below hb_w5 H2.lt
    replace R1 := R1.below hb_w5 (Nat.le_refl _)
    replace R2 := R2.below hb_w5 (Nat.le_refl _)
    replace BW := BW.trans (hb_w5.mono BW.size)
    clear hb_w5 d0 d1 e0 e1
    obtain ⟨d0, d1⟩ := blkG H1
    obtain ⟨e0, e1⟩ := blkG H2
    clear hf_a
    go_wp2_with fail
    (with_reducible refine (kb.out _ (hT.keep BW) R2).mono ?_)
    rintro e w6 ⟨A_b, n_b, c_b, rfl, hc_b, Lb, hb_w6, hf_b⟩
    replace H1 := H1.below hb_w6 H1.lt
    replace H2 := H2.below hb_w6 H2.lt
    replace R1 := R1.below hb_w6 (Nat.le_refl _)
    replace R2 := R2.below hb_w6 (Nat.le_refl _)
    replace La := RI.below La hb_w6 (Nat.le_refl _)
    replace BW := BW.trans (hb_w6.mono BW.size)
    clear hb_w6 d0 d1 e0 e1
    obtain ⟨d0, d1⟩ := blkG H1
    obtain ⟨e0, e1⟩ := blkG H2
    clear hf_b
    go_wp2_with fail
    (with_reducible refine (kbs.out _ R1 R2).mono ?_)
    rintro e w7 ⟨A_p, n_p, c_p, rfl, hc_p, RP, hb_w7⟩
    replace H1 := H1.below hb_w7 H1.lt
    replace H2 := H2.below hb_w7 H2.lt
    replace R1 := R1.below hb_w7 (Nat.le_refl _)
    replace R2 := R2.below hb_w7 (Nat.le_refl _)
    replace La := RI.below La hb_w7 (Nat.le_refl _)
    replace Lb := RI.below Lb hb_w7 (Nat.le_refl _)
    replace BW := BW.trans (hb_w7.mono BW.size)
    clear hb_w7 d0 d1 e0 e1
    obtain ⟨d0, d1⟩ := blkG H1
    obtain ⟨e0, e1⟩ := blkG H2
    have hnp : n_p ≤ 68719476736 := by rw [← RP.len]; omega
    go_wp2_with fail
    (with_reducible refine (kc.out A_p n_p c_p hnp _ (hT.keep BW) RP).mono ?_)
    rintro e w8 ⟨A_c, n_c, c_c, rfl, hc_c, Lc, hb_w8, hf_c⟩
    replace H1 := H1.below hb_w8 H1.lt
    replace H2 := H2.below hb_w8 H2.lt
    replace R1 := R1.below hb_w8 (Nat.le_refl _)
    replace R2 := R2.below hb_w8 (Nat.le_refl _)
    replace La := RI.below La hb_w8 (Nat.le_refl _)
    replace Lb := RI.below Lb hb_w8 (Nat.le_refl _)
    replace BW := BW.trans (hb_w8.mono BW.size)
    clear hb_w8 d0 d1 e0 e1
    obtain ⟨d0, d1⟩ := blkG H1
    obtain ⟨e0, e1⟩ := blkG H2
    clear hf_c
    clear RP hnp
    go_wp2_with fail
    (with_reducible refine (kx.out _ (hT.keep BW) R1).mono ?_)
    rintro e w9 ⟨A_x, n_x, c_x, rfl, hc_x, Lx, hb_w9, hf_x⟩
    replace H1 := H1.below hb_w9 H1.lt
    replace H2 := H2.below hb_w9 H2.lt
    replace R1 := R1.below hb_w9 (Nat.le_refl _)
    replace R2 := R2.below hb_w9 (Nat.le_refl _)
    replace La := RI.below La hb_w9 (Nat.le_refl _)
    replace Lb := RI.below Lb hb_w9 (Nat.le_refl _)
    replace Lc := RI.below Lc hb_w9 (Nat.le_refl _)
    replace BW := BW.trans (hb_w9.mono BW.size)
    clear hb_w9 d0 d1 e0 e1
    obtain ⟨d0, d1⟩ := blkG H1
    obtain ⟨e0, e1⟩ := blkG H2
    clear hf_x
    go_wp2_with fail
    (with_reducible refine (ky.out _ (hT.keep BW) R2).mono ?_)
    rintro e w10 ⟨A_y, n_y, c_y, rfl, hc_y, Ly, hb_w10, hf_y⟩
    replace H1 := H1.below hb_w10 H1.lt
    replace H2 := H2.below hb_w10 H2.lt
    replace R1 := R1.below hb_w10 (Nat.le_refl _)
    replace R2 := R2.below hb_w10 (Nat.le_refl _)
    replace La := RI.below La hb_w10 (Nat.le_refl _)
    replace Lb := RI.below Lb hb_w10 (Nat.le_refl _)
    replace Lc := RI.below Lc hb_w10 (Nat.le_refl _)
    replace Lx := RI.below Lx hb_w10 (Nat.le_refl _)
    replace BW := BW.trans (hb_w10.mono BW.size)
    clear hb_w10 d0 d1 e0 e1
    obtain ⟨d0, d1⟩ := blkG H1
    obtain ⟨e0, e1⟩ := blkG H2
    clear hf_y
    go_wp2_with fail
    (with_reducible refine (kbs.out _ R1 R2).mono ?_)
    rintro e w11 ⟨A_q, n_q, c_q, rfl, hc_q, RQ, hb_w11⟩
    replace H1 := H1.below hb_w11 H1.lt
    replace H2 := H2.below hb_w11 H2.lt
    replace R1 := R1.below hb_w11 (Nat.le_refl _)
    replace R2 := R2.below hb_w11 (Nat.le_refl _)
    replace La := RI.below La hb_w11 (Nat.le_refl _)
    replace Lb := RI.below Lb hb_w11 (Nat.le_refl _)
    replace Lc := RI.below Lc hb_w11 (Nat.le_refl _)
    replace Lx := RI.below Lx hb_w11 (Nat.le_refl _)
    replace Ly := RI.below Ly hb_w11 (Nat.le_refl _)
    replace BW := BW.trans (hb_w11.mono BW.size)
    clear hb_w11 d0 d1 e0 e1
    obtain ⟨d0, d1⟩ := blkG H1
    obtain ⟨e0, e1⟩ := blkG H2
    have hnq : n_q ≤ 68719476736 := by rw [← RQ.len]; omega
    go_wp2_with fail
    (with_reducible refine (kz.out A_q n_q c_q hnq _ (hT.keep BW) RQ).mono ?_)
    rintro e w12 ⟨A_z, n_z, c_z, rfl, hc_z, Lz, hb_w12, hf_z⟩
    replace H1 := H1.below hb_w12 H1.lt
    replace H2 := H2.below hb_w12 H2.lt
    replace R1 := R1.below hb_w12 (Nat.le_refl _)
    replace R2 := R2.below hb_w12 (Nat.le_refl _)
    replace La := RI.below La hb_w12 (Nat.le_refl _)
    replace Lb := RI.below Lb hb_w12 (Nat.le_refl _)
    replace Lc := RI.below Lc hb_w12 (Nat.le_refl _)
    replace Lx := RI.below Lx hb_w12 (Nat.le_refl _)
    replace Ly := RI.below Ly hb_w12 (Nat.le_refl _)
    replace BW := BW.trans (hb_w12.mono BW.size)
    clear hb_w12 d0 d1 e0 e1
    obtain ⟨d0, d1⟩ := blkG H1
    obtain ⟨e0, e1⟩ := blkG H2
    clear hf_z
    clear RQ hnq
    go_wp2_with fail
    have jS := hS.out
    have ja : n_a = N := by rw [← La.len]; exact l4.out
    have jb : n_b = M := by rw [← Lb.len]; exact l5.out
    have jc : n_c = N + M := by rw [← Lc.len, List.length_append, l4.out, l5.out]
    have jx : n_x = k + 1 := by rw [← Lx.len]; exact l1.out
    have jy : n_y = k + 1 := by rw [← Ly.len]; exact l2.out
    have jz : n_z = k + 1 := by rw [← Lz.len]; exact l3.out
    have qx : ((n_x : Int) == S) = true := by rw [beq_iff_eq]; omega
    have qy : ((n_y : Int) == S) = true := by rw [beq_iff_eq]; omega
    have qz : ((n_z : Int) == S) = true := by rw [beq_iff_eq]; omega
    obtain ⟨adx, xx, rfl, hx, cx⟩ := Lx.get (k := k) (by omega)
    obtain ⟨ady, yy, rfl, hy, cy⟩ := Ly.get (k := k) (by omega)
    obtain ⟨adz, zz, rfl, hz, cz⟩ := Lz.get (k := k) (by omega)
    obtain rfl : xx = (X : Int) := by have h1 := hx.out; rw [fx.out] at h1; injection h1 with h1; exact h1.symm
    obtain rfl : yy = (Y : Int) := by have h1 := hy.out; rw [fy.out] at h1; injection h1 with h1; exact h1.symm
    obtain ⟨Z, hZ⟩ : ∃ Z, Z = X + Y := ⟨_, rfl⟩
    obtain rfl : zz = (Z : Int) := by have h1 := hz.out; rw [fz.out] at h1; injection h1 with h1; rw [hZ]; exact h1.symm
    have f1 : IntKind.i64.wrap (S - 1) = (k : Int) := by rw [show S - 1 = (k : Int) by omega]; exact IntWalk.i64_in _ ⟨by omega, by omega⟩
    have f2 : IntKind.i64.wrap ((X : Int) + (Y : Int)) = (Z : Int) := by rw [show (X : Int) + (Y : Int) = (Z : Int) by omega]; exact IntWalk.i64_in _ ⟨by omega, by omega⟩
    have f3 : (0 : Int) ≤ (k : Int) := Int.natCast_nonneg _
    have f4 : (k : Int) < (n_x : Int) := by omega
    have f5 : (k : Int) < (n_y : Int) := by omega
    have f6 : (k : Int) < (n_z : Int) := by omega
    have hlx := World.block_lt_of_cell? _ _ cx
    have hly := World.block_lt_of_cell? _ _ cy
    have hlz := World.block_lt_of_cell? _ _ cz
    have g1 : n_c ≤ 1099511627776 := by omega
    have g2 : 0 + n_a + n_b ≤ 1099511627776 := by omega
    have g2' : n_a + n_b ≤ 1099511627776 := by omega
    have g3 : 0 + n_a ≤ maxLen ∧ (0 + n_a) * 8 ≤ 140737488355328 ∧ 0 + n_a + n_b ≤ maxLen ∧ (0 + n_a + n_b) * 8 ≤ 140737488355328 := by unfold maxLen; omega
    obtain ⟨g4, g5, g6, g7⟩ := g3
    have e00 : cmpL (Na ++ Nb) (Na ++ Nb) = 0 := (cmp_zero _ _).2 rfl
    have kcm := fun A A' n c n' c' w h1 h2 h3 h4 => cmp2_any A A' n c n' c' (Na ++ Nb) (Na ++ Nb) w h1 h2 h3 h4
    rw [e00] at kcm
    replace kcm := Lib.hid kcm
    have hT12 := Lib.hid hT
    have kaw := Lib.hid (fun w hT => awake25_any w hT)
    obtain ⟨i0, hi0, hz0, hz1, hz2⟩ := info_parts int_info
    have BN : Below w12.heap.size w12 w12 := Below.refl _ _
    clear jS ja jb jc jx jy jz hx hy hz hZ e00 Lx Ly Lz R1 R2 H1 H2 d0 d1 e0 e1 hS es0 S1 S6 hl1 hl2
    simp only [List.append_eq, List.cons_append, List.nil_append]
    go_region_held3 (fun w' => w'.cell? (adx.add k) = some (.int .i64 X) ∧ w'.cell? (ady.add k) = some (.int .i64 Y) ∧ w'.cell? (adz.add k) = some (.int .i64 Z))
      ((first | (exact ⟨(BN.cell hlx).trans cx, (BN.cell hly).trans cy, (BN.cell hlz).trans cz⟩) | ((repeat' apply And.intro) <;> (go_keep; done))))
      ((first
        | (refine step_append_g _ (by rfl) (.const (.slice none 0 0)) (.tmp 99) 26 (by rfl) w12.heap.size 3 i0 _ 1 8 Tryd.underlying26 hi0 hz0 hz1 hz2 rfl (by omega) (.slice none 0 0) 0 [] (by rfl) (World.ownsRow_nil _ _ _ _) _ A_a n_a c_a (ints Na) (by rfl) (by first | exact RI.below La BN (Nat.le_refl _) | exact RI.below La BN.drew (Nat.le_refl _)) (ints_one _) g4 g5 BN.size ?_; intro v1 wa hown1 hg1 hat1; replace BN : Below w12.heap.size w12 wa := (by first | exact below_own BN hg1 BN.size (fun k hk => by simp [Value.ownBlock] at hk) | exact below_own BN.drew hg1 BN.size (fun k hk => by simp [Value.ownBlock] at hk)))
        | (refine step_append_g _ (by rfl) (.tmp 100) (.tmp 101) 26 (by rfl) w12.heap.size 3 i0 _ 1 8 Tryd.underlying26 hi0 hz0 hz1 hz2 rfl (by omega) v1 (0 + n_a) ([] ++ ints Na) (by rfl) hown1 _ A_b n_b c_b (ints Nb) (by rfl) (RI.below Lb BN (Nat.le_refl _)) (ints_one _) g6 g7 BN.size ?_; intro v2 wb hown2 hg2 hat2; replace BN : Below w12.heap.size w12 wb := below_own BN hg2 BN.size (own_block hown1); obtain ⟨A2, c2', rfl, hc2', hm2'⟩ := own_form hown2; have hr2 := Reads.of_own hown2; simp only [List.nil_append] at hr2; rw [← ints_append] at hr2; replace hr2 : RI wb A2 (0 + n_a + n_b) (Na ++ Nb) := hr2; have hr3 := hr2; rw [Nat.zero_add] at hr3)
        | (go_at_call 23; (first | (with_reducible refine (kcm.out A_c A2 n_c c_c (n_a + n_b) c2' _ (RI.below Lc BN (Nat.le_refl _)) g1 hr3 g2').mono ?_) | (with_reducible refine (kcm.out A_c A2 n_c c_c (0 + n_a + n_b) c2' _ (RI.below Lc BN (Nat.le_refl _)) g1 hr2 g2).mono ?_)); rintro e wc ⟨rfl, qq, rfl⟩; replace BN : Below w12.heap.size w12 (wb.drewN qq) := below_drewN BN qq)
        | (go_at_call 13; (with_reducible refine (kaw.out _ (hT12.out.keep (BW.trans (BN.mono BW.size)))).mono ?_); rintro e wd ⟨rfl, hbd⟩; replace BN : Below w12.heap.size w12 wd := below_call BN hbd)))
    have hbz := BW.trans (BN.mono BW.size)
    clear BN BW hbd cx cy cz
    go_wp2_with fail
    go_ret
    exact ⟨rfl, hbz⟩
  · have hv : decide (m0 ≤ 500) = false := by simpa using hfew
    rw [hv] at kf
    replace kf := Lib.hid kf
    clear hv hfew
    go_enter Tryd.func5, Tryd.ntmps5
    go_wp2_with fail
    refine (kf.out _).mono ?_
    rintro e w1 ⟨rfl, rfl⟩
    go_wp2_with fail
    refine (awake25_any _ hT).mono ?_
    rintro e we ⟨rfl, hbe⟩
    go_wp2_with fail
    go_ret
    exact ⟨rfl, hbe⟩
end Go.Proofs.YtknlmgcbdcepnaaDoor
