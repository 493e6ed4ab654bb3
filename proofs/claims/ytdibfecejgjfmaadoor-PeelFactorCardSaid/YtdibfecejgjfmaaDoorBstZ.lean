/- Printed by merge.py from AwkM, PeeJ, BstL. -/
import Derived.Test.YtdibfecejgjfmaaDoorCorH
import Derived.Test.YtdibfecejgjfmaaDoorRCoD
import Derived.Test.YtdibfecejgjfmaaDoorPeeI
import Derived.Test.YtdibfecejgjfmaaDoorBstN
import Derived.Test.YtdibfecejgjfmaaDoorRefF
import Derived.Lib.QuietBelow
import Derived.Deep.DeepCutAuto
/- Package core, ninth part: Degeneracy and Core. -/
set_option linter.unusedVariables false
namespace Go.Proofs.YtdibfecejgjfmaaDoor
open Go.RowKit CoBit

/-- The first j nodes whose number is at least K. -/
def atL (ns : List Int) (K : Int) (j : Nat) : List Int := (rng j).filter fun x => decide (K ≤ ns.getD x.toNat 0)
theorem atL_step {ns : List Int} {K y : Int} {j : Nat} (h : ns[j]? = some y) : atL ns K (j + 1) = if K ≤ y then atL ns K j ++ [(j : Int)] else atL ns K j := by
  unfold atL
  rw [rng_succ, List.filter_append]
  have : ns.getD (j : Int).toNat 0 = y := by rw [Int.toNat_natCast, getD_at h]
  by_cases hk : K ≤ y
  · rw [if_pos hk, List.filter_cons, if_pos (by rw [this]; exact decide_eq_true hk)]; rfl
  · rw [if_neg hk, List.filter_cons, if_neg (by rw [this]; exact fun e => hk (of_decide_eq_true e))]; simp
theorem atL_length (ns : List Int) (K : Int) (j : Nat) : (atL ns K j).length ≤ j := Nat.le_trans (List.length_filter_le _ _) (by rw [rng_length]; exact Nat.le_refl _)
theorem atL_core {nb : Int → List Int} {n : Nat} {ns : List Int} {K : Int} (h : IsNums nb n ns) : Vld (atL ns K n) n ∧ ∀ v, v ∈ atL ns K n ↔ inC nb n K v := by
  refine ⟨vld_filter (rng_vld n) _, fun v => ?_⟩
  unfold atL
  rw [List.mem_filter, mem_rng, decide_eq_true_eq]
  constructor
  · rintro ⟨h1, h2⟩
    obtain ⟨i, rfl⟩ := Int.eq_ofNat_of_zero_le h1.1
    rw [Int.toNat_natCast] at h2
    exact inC_mono (h.2 i (by omega)).2.1 h2
  · intro hin
    have h1 := inC_range hin
    refine ⟨h1, ?_⟩
    obtain ⟨i, rfl⟩ := Int.eq_ofNat_of_zero_le h1.1
    rw [Int.toNat_natCast]
    by_cases hk : K ≤ ns.getD i 0
    · exact hk
    · exact absurd (inC_mono hin (by omega)) (h.2 i (by omega)).2.2

end Go.Proofs.YtdibfecejgjfmaaDoor

namespace Go.Proofs.YtdibfecejgjfmaaDoor

def hungE : List (Int × Int) := [(0, 1), (0, 2), (1, 2), (2, 3)]
theorem hung_chk : chkG 4 hungE = 0 := by decide +kernel
theorem hung_nb : nbG 4 hungE 0 = [1, 2] ∧ nbG 4 hungE 1 = [0, 2] ∧ nbG 4 hungE 2 = [0, 1, 3] ∧ nbG 4 hungE 3 = [2] := by decide +kernel
theorem inC_le {nb : Int → List Int} {n k v : Int} (h : inC nb n k v) : k ≤ ((nb v).length : Int) := by
  obtain ⟨S, hv, hS⟩ := h
  have h1 := (hS v hv).2.2
  have h2 : dg nb S v ≤ (nb v).length := List.length_filter_le _ _
  omega
theorem hung_not (v : Int) : ¬ inC (nbG 4 hungE) 4 3 v := by
  obtain ⟨n0, n1, n2, n3⟩ := hung_nb
  have k0 : ¬ inC (nbG 4 hungE) 4 3 0 := fun h => by have := inC_le h; rw [n0] at this; simp at this
  have k1 : ¬ inC (nbG 4 hungE) 4 3 1 := fun h => by have := inC_le h; rw [n1] at this; simp at this
  have k3 : ¬ inC (nbG 4 hungE) 4 3 3 := fun h => by have := inC_le h; rw [n3] at this; simp at this
  have hall : ∀ u, inC (nbG 4 hungE) 4 3 u → u ∈ [(2 : Int)] := by
    intro u hu
    have hr := inC_range hu
    have : u = 0 ∨ u = 1 ∨ u = 2 ∨ u = 3 := by omega
    rcases this with rfl | rfl | rfl | rfl
    · exact absurd hu k0
    · exact absurd hu k1
    · simp
    · exact absurd hu k3
  intro h
  have hv := hall v h
  simp at hv
  subst hv
  have := inC_dg h hall
  have h2 : dg (nbG 4 hungE) [2] 2 = 0 := by decide +kernel
  omega
theorem hung_nums : IsNums (nbG 4 hungE) 4 [2, 2, 2, 1] := by
  refine ⟨rfl, fun v hv => ?_⟩
  have hs : ∀ u ∈ [(0 : Int), 1, 2], 0 ≤ u ∧ u < 4 ∧ 2 ≤ (dg (nbG 4 hungE) [0, 1, 2] u : Int) := by decide +kernel
  have hs3 : ∀ u ∈ [(2 : Int), 3], 0 ≤ u ∧ u < 4 ∧ 1 ≤ (dg (nbG 4 hungE) [2, 3] u : Int) := by decide +kernel
  have : v = 0 ∨ v = 1 ∨ v = 2 ∨ v = 3 := by omega
  rcases this with rfl | rfl | rfl | rfl
  · exact ⟨by decide, ⟨[0, 1, 2], by decide, hs⟩, hung_not _⟩
  · exact ⟨by decide, ⟨[0, 1, 2], by decide, hs⟩, hung_not _⟩
  · exact ⟨by decide, ⟨[0, 1, 2], by decide, hs⟩, hung_not _⟩
  · refine ⟨by decide, ⟨[2, 3], by decide, hs3⟩, fun h => ?_⟩
    have := inC_le h
    have h3 := hung_nb.2.2.2
    rw [show ((3 : Nat) : Int) = 3 from rfl, h3] at this
    simp at this
instance (nb : Int → List Int) (L : List Int) (v w : Int) : Decidable (bef nb L v w) := by unfold bef; infer_instance
instance (nb : Int → List Int) (L : List Int) (v : Int) : Decidable (isBest nb L v) := by unfold isBest; infer_instance
theorem hung_ps : PS (nbG 4 hungE) 4 [3, 0, 1, 2] := by
  intro i v hv
  have hi : i < 4 := (List.getElem?_eq_some_iff.1 hv).1
  have : i = 0 ∨ i = 1 ∨ i = 2 ∨ i = 3 := by omega
  rcases this with rfl | rfl | rfl | rfl
  all_goals
    simp at hv
    subst hv
    decide +kernel
theorem hung_ok : okTo (nbG 4 hungE) [2, 2, 2, 1] [3, 0, 1, 2] 4 := by
  intro i v _ hv
  have hi : i < 4 := (List.getElem?_eq_some_iff.1 hv).1
  have : i = 0 ∨ i = 1 ∨ i = 2 ∨ i = 3 := by omega
  rcases this with rfl | rfl | rfl | rfl
  all_goals
    simp at hv
    subst hv
    refine ⟨fun u h0 hu => ?_, by decide +kernel, by decide +kernel⟩
    simp at hu h0
    try subst hu
    try decide
theorem hung_ord : OrdI [3, 0, 1, 2] 4 := ordI_per.2 ⟨rfl, by decide, by decide⟩
theorem hung_isChk {x : Int} (h : IsChk 4 hungE [2, 2, 2, 1] [3, 0, 1, 2] x) : x = 0 := by
  rcases h.2.2 hung_chk rfl hung_ord with h | h
  · exact h.1
  · exact absurd hung_ok h.2
theorem hung_numsL {l : List Int} (h : NumsL 4 hungE l) : l = [2, 2, 2, 1] := nums_unique (h.1 hung_chk) hung_nums
theorem hung_isOrd {o : List Int} (h : IsOrd 4 hungE o) : o = [3, 0, 1, 2] := ps_unique (h.1 hung_chk).1 hung_ps (h.1 hung_chk).2
end Go.Proofs.YtdibfecejgjfmaaDoor

/- The example of chapter 20: awake. -/
set_option linter.unusedVariables false
set_option linter.unusedSimpArgs false
namespace Go.Proofs.YtdibfecejgjfmaaDoor
open Go.RowKit CoBit CoRat Rt

theorem Blk.rds {w : World} {g : Nat} {t : TypeId} {cs : Array Value} {xs : List Value} {n size : Nat} (h : Blk w g t cs) (hx : cs.toList = xs) (hl : xs.length = n * size) : Reads w w.heap.size size (some ⟨g, 0, none⟩) n xs := by
  refine ⟨by first | exact hl | omega, fun _ => ⟨_, rfl, h.lt, fun j u hu => ?_⟩⟩
  have hc := Blk.cell h j
  have : ((⟨g, 0, none⟩ : Addr).add j) = ⟨g, j, none⟩ := by unfold Addr.add; split <;> simp_all
  rw [this, hc]
  subst hx
  simpa using hu
theorem hung_rec : recK 4 hungE [3, 0, 1, 2] 4 = (15, 1, 1) := by decide +kernel
theorem hung_set : bset 15 = [0, 1, 2, 3] := by decide +kernel
theorem hung_per : Per [3, 0, 1, 2] 4 := ⟨rfl, by decide, by decide⟩
theorem hung_later : IsLater (nbG 4 hungE) 4 [3, 0, 1, 2] [2, 1, 0, 1] := by
  refine ⟨rfl, fun i v hv => ?_⟩
  have hi : i < 4 := (List.getElem?_eq_some_iff.1 hv).1
  have : i = 0 ∨ i = 1 ∨ i = 2 ∨ i = 3 := by omega
  rcases this with rfl | rfl | rfl | rfl
  all_goals
    simp at hv
    subst hv
    decide +kernel

set_option maxRecDepth 100000 in
set_option maxHeartbeats 4000000 in
theorem awake20_any (w : World) (hT : Tab w) :
    Calls Tryd.prog 16 #[] w fun e w' => e = .returned (.bool true) ∧ Below w.heap.size w w' := by
  go_enter Tryd.func16, Tryd.ntmps16
  go_upto_region 2 with fail
  have E1 := Blk.new w 69 #[.int .i64 0, .int .i64 1, .int .i64 0, .int .i64 2, .int .i64 1, .int .i64 2, .int .i64 2, .int .i64 3]
  have E2 := E1.alloc (.cells #[.int .i64 4, .slice (some ⟨w.heap.size, 0, none⟩) 4 4] 27)
  have G2 : Blk ((w.alloc (.cells #[.int .i64 0, .int .i64 1, .int .i64 0, .int .i64 2, .int .i64 1, .int .i64 2, .int .i64 2, .int .i64 3] 69)).alloc (.cells #[.int .i64 4, .slice (some ⟨w.heap.size, 0, none⟩) 4 4] 27)) (w.heap.size + 1) 27 #[.int .i64 4, .slice (some ⟨w.heap.size, 0, none⟩) 4 4] := Blk.new' _ _ _ (by simp)
  have hb2 : Below w.heap.size w ((w.alloc (.cells #[.int .i64 0, .int .i64 1, .int .i64 0, .int .i64 2, .int .i64 1, .int .i64 2, .int .i64 2, .int .i64 3] 69)).alloc (.cells #[.int .i64 4, .slice (some ⟨w.heap.size, 0, none⟩) 4 4] 27)) := ((Below.refl _ _).alloc (Nat.le_refl _) _).alloc (by simp) _
  have hr2 : RE ((w.alloc (.cells #[.int .i64 0, .int .i64 1, .int .i64 0, .int .i64 2, .int .i64 1, .int .i64 2, .int .i64 2, .int .i64 3] 69)).alloc (.cells #[.int .i64 4, .slice (some ⟨w.heap.size, 0, none⟩) 4 4] 27)) (some ⟨w.heap.size, 0, none⟩) 4 hungE := Blk.rds E2 rfl rfl
  clear E1 E2
  generalize (w.alloc (.cells #[.int .i64 0, .int .i64 1, .int .i64 0, .int .i64 2, .int .i64 1, .int .i64 2, .int .i64 2, .int .i64 3] 69)).alloc (.cells #[.int .i64 4, .slice (some ⟨w.heap.size, 0, none⟩) 4 4] 27) = w2 at *
  obtain ⟨d0, d1⟩ := blkG G2
  have hs2 := hb2.size
  go_wp2_with fail
  refine (greedy_any (some ⟨w.heap.size, 0, none⟩) 4 4 4 hungE w2 (hT.keep hb2) hr2 (by omega) hung_chk (by omega)).mono ?_
  rintro e w3 ⟨o, hO, -, A3, n3, c3, A5, n5, c5, rfl, hc3, hc5, hr3, hr5, hb3, hf3, hf5⟩
  have ho := hung_isOrd hO
  subst ho
  rw [hung_rec] at hr5 ⊢
  simp only at hr5 ⊢
  rw [hung_set] at hr5
  have hfx : fixD 1 = 1 := rfl
  rw [hfx]
  obtain rfl : n3 = 4 := hr3.len.symm
  obtain rfl : n5 = 4 := hr5.len.symm
  have G3 := G2.below hb3 G2.lt
  have hr4 := hr2.below hb3 (Nat.le_refl _)
  have hb03 := hb2.trans (hb3.mono hs2)
  clear hO hb3 hf3 hf5 hr2 G2 d0 d1 hfx hb2
  go_upto_region 3 with fail
  have P4 := Blk.new w3 33 #[.slice A3 4 c3, .slice A5 4 c5, .int .i64 1, .int .i64 1]
  have G4 := G3.alloc (.cells #[.slice A3 4 c3, .slice A5 4 c5, .int .i64 1, .int .i64 1] 33)
  have hg4 := hr4.alloc (.cells #[.slice A3 4 c3, .slice A5 4 c5, .int .i64 1, .int .i64 1] 33)
  have ho4 := hr3.alloc (.cells #[.slice A3 4 c3, .slice A5 4 c5, .int .i64 1, .int .i64 1] 33)
  have hb4 := hb03.alloc hb03.size (.cells #[.slice A3 4 c3, .slice A5 4 c5, .int .i64 1, .int .i64 1] 33)
  clear G3 hr4 hr3 hr5 hb03
  generalize w3.alloc (.cells #[.slice A3 4 c3, .slice A5 4 c5, .int .i64 1, .int .i64 1] 33) = w4 at *
  generalize w3.heap.size = gp at *
  obtain ⟨d0, d1⟩ := blkG G4
  have p0 := Blk.cell P4 0
  simp at p0
  go_wp2_with fail
  refine (plimit_any (some ⟨w.heap.size, 0, none⟩) 4 4 4 hungE A3 4 c3 [3, 0, 1, 2] w4 hg4 (by omega) ho4 hc3 (by omega) hung_chk (by omega) hung_per).mono ?_
  rintro e w5 ⟨ls, rfl, hL, hb5⟩
  obtain rfl := later_unique hung_per hL hung_later
  have hmx : maxL [2, 1, 0, 1] = 2 := by decide
  rw [hmx]
  have P5 := P4.below hb5 P4.lt
  have ho5 := RI.below ho4 hb5 (Nat.le_refl _)
  have hb05 := hb4.trans (hb5.mono hb4.size)
  clear hL hb5 hb4 ho4 hg4 P4 G4 d0 d1 p0 hmx
  have p0 := Blk.cell P5 0
  have p1 := Blk.cell P5 1
  have p2 := Blk.cell P5 2
  have p3 := Blk.cell P5 3
  simp at p0 p1 p2 p3
  go_wp2_with fail
  have e1 : decide (([3, 0, 1, 2] : List Int) = [3, 0, 1, 2]) = true := by decide
  have hq1 : RI (w5.alloc (.cells #[.int .i64 3, .int .i64 0, .int .i64 1, .int .i64 2] 3)) (some ⟨w5.heap.size, 0, none⟩) 4 [3, 0, 1, 2] := (Blk.rds (Blk.new w5 3 #[.int .i64 3, .int .i64 0, .int .i64 1, .int .i64 2]) rfl rfl : Reads _ _ _ _ _ _)
  have hb06 := hb05.alloc hb05.size (.cells #[.int .i64 3, .int .i64 0, .int .i64 1, .int .i64 2] 3)
  have ho6 := ho5.alloc (.cells #[.int .i64 3, .int .i64 0, .int .i64 1, .int .i64 2] 3)
  have ks := same_any A3 (some ⟨w5.heap.size, 0, none⟩) 4 c3 4 4 _ _ _ ho6 (by omega) hq1 (by omega)
  rw [e1] at ks
  refine ks.mono ?_
  rintro e w6 ⟨rfl, q, rfl⟩
  have P6 := Blk.drewN (P5.alloc (.cells #[.int .i64 3, .int .i64 0, .int .i64 1, .int .i64 2] 3)) q
  have hbz := below_drewN hb06 q
  clear ks hq1 ho6 ho5 hb06 hb05 P5 p0 p1 p2 p3 e1
  have p1 := Blk.cell P6 1
  have p2 := Blk.cell P6 2
  have p3 := Blk.cell P6 3
  simp at p1 p2 p3
  go_wp2_with fail
  go_ret
  exact ⟨rfl, hbz⟩
end Go.Proofs.YtdibfecejgjfmaaDoor

/- The law PeelFactor. (Printed by genBstL.py.) -/
set_option linter.unusedVariables false
set_option linter.unusedSimpArgs false
namespace Go.Proofs.YtdibfecejgjfmaaDoor
open Go.RowKit Go.Sort CoBit CoRat Rt
theorem blkF_ {w : World} {g : Nat} {a b : Value} (h : Blk w g 31 #[a, b]) : w.cell? ⟨g, 0, none⟩ = some a ∧ w.cell? ⟨g, 1, none⟩ = some b := ⟨Blk.cell h 0, Blk.cell h 1⟩
attribute [local irreducible] wpQuiet in
set_option maxRecDepth 100000 in
set_option maxHeartbeats 16000000 in
theorem lawFactor_any (A0 : Option Addr) (m0 c0 : Nat) (l : List Int) (NU DE : Int) (w : World) (hT : Tab w) (h0 : RI w A0 m0 l) (hmc : m0 ≤ c0) (hm0 : m0 ≤ 1152921504606846976) :
    Calls Tryd.prog 5 #[.slice A0 m0 c0, .int .i64 NU, .int .i64 DE] w fun e w' => e = .returned (.bool true) ∧ Below w.heap.size w w' := by
  obtain ⟨X, hX⟩ := Int.eq_ofNat_of_zero_le (show 0 ≤ NU % 5 by omega)
  obtain ⟨Y, hY⟩ := Int.eq_ofNat_of_zero_le (show 0 ≤ 1 + DE % 5 by omega)
  have hX5 : X ≤ 4 := by omega
  have hY5 : 1 ≤ Y ∧ Y ≤ 5 := by omega
  have km1 := fun w => mkmod_any NU 5 w (by omega) (by omega)
  have km2 := fun w => mkmod_any DE 5 w (by omega) (by omega)
  rw [hX] at km1
  have j1 : IntKind.i64.wrap (1 + DE % 5) = (Y : Int) := by rw [hY]; exact IntWalk.i64_in _ ⟨by omega, by omega⟩
  have j2 : 1 + DE % 5 = (Y : Int) := hY
  have hFx := FrV.mk_ X Y (by omega) (by omega) (by omega)
  obtain ⟨a, d, ha, hd, hd0, ha4, hd5, _⟩ := mk_val X Y (by omega) (by omega) (by omega)
  rw [ha, hd] at hFx
  have hokx := hFx.1
  have kof1 := fun w => of_f (X : Int) (Y : Int) w (by omega) (by omega) (by omega) (by omega)
  rw [ha, hd] at kof1
  replace km1 := Lib.hid km1
  replace km2 := Lib.hid km2
  replace kof1 := Lib.hid kof1
  replace hokx := Lib.hid hokx
  clear hX hY hFx ha hd
  go_enter Tryd.func5, Tryd.ntmps5
  go_wp2_with fail
  refine (new_any A0 m0 c0 l w h0 hmc hm0).mono ?_
  rintro e w1 ⟨rfl, hd1, hb1, hs1⟩
  go_wp2_with fail
  refine (mkgraph_any _ 9 _ hd1 (by omega)).mono ?_
  rintro e w2 ⟨n, es, A, m, c, rfl, hmcc, hr2, hf2, hsrt, hn9, hd2, hg2⟩
  have hz := Lib.hid (chk_of_srt hsrt (show (0 : Int) ≤ n by omega) (by omega))
  have hlen : m ≤ 81 := by
    have h1 := srt_len hsrt
    have h2 := hr2.len
    have h3 : n * n ≤ 9 * 9 := Nat.mul_le_mul hn9 hn9
    omega
  have hel : es.length ≤ 4096 := by have := hr2.len; omega
  have hb2 : Below w.heap.size w w2 := hb1.grown hg2 (by omega) (fun k hk => by injection hk with hk; omega)
  have hs2 := hb2.size
  clear hs1 hb1 hf2 hg2 h0 hd1 hd2 hsrt
  go_upto_region 2 with fail
  have G3 := Blk.new w2 27 #[.int .i64 n, .slice A m c]
  have E3 := hr2.alloc (.cells #[.int .i64 n, .slice A m c] 27)
  have B3 := hb2.alloc hs2 (.cells #[.int .i64 n, .slice A m c] 27)
  clear hr2 hb2
  generalize w2.alloc (.cells #[.int .i64 n, .slice A m c] 27) = w3 at *
  generalize w2.heap.size = gg at *
  obtain ⟨d0, d1⟩ := blkG G3
  have kb := Lib.hid (rbest_any A m c n es w3 E3 (by omega) hz.out (by omega) (by omega))
  go_wp2_with fail
  refine kb.out.mono ?_
  clear kb d0 d1
  obtain ⟨bN, hbN⟩ : ∃ bN, mkN ((bR es (2 ^ n - 1)).2.1 : Nat) ((bR es (2 ^ n - 1)).2.2 : Nat) = bN := ⟨_, rfl⟩
  obtain ⟨bD, hbD⟩ : ∃ bD, mkD ((bR es (2 ^ n - 1)).2.1 : Nat) ((bR es (2 ^ n - 1)).2.2 : Nat) = bD := ⟨_, rfl⟩
  rintro e w4 ⟨A4, n4, c4, rfl, -, -, hb4⟩
  rw [hbN, hbD]
  have hpk := Lib.hid (And.intro hbN hbD)
  clear hbN hbD
  have G4 := G3.below hb4 G3.lt
  have E4 := E3.below hb4 (Nat.le_refl _)
  have B4 := B3.trans (hb4.mono B3.size)
  clear G3 E3 B3 hb4
  go_upto_region 3 with fail
  have Bb5 := Blk.new w4 31 #[.int .i64 bN, .int .i64 bD]
  have G5 := G4.alloc (.cells #[.int .i64 bN, .int .i64 bD] 31)
  have E5 := E4.alloc (.cells #[.int .i64 bN, .int .i64 bD] 31)
  have B5 := B4.alloc B4.size (.cells #[.int .i64 bN, .int .i64 bD] 31)
  clear G4 E4 B4
  generalize w4.alloc (.cells #[.int .i64 bN, .int .i64 bD] 31) = w5 at *
  generalize w4.heap.size = gb at *
  go_upto_region 4 with (first
    | (go_at_call 19; with_reducible refine (km1.out _).mono ?_; rintro e wq ⟨rfl, hq⟩; obtain rfl := hq.symm)
    | (go_at_call 19; with_reducible refine (km2.out _).mono ?_; rintro e wq ⟨rfl, hq⟩; obtain rfl := hq.symm)
    | (go_at_call 18; with_reducible refine (kof1.out _).mono ?_; rintro e w6 ⟨rfl, hb6⟩)
    | fail)
  have Bx7 := Blk.new w6 31 #[.int .i64 a, .int .i64 d]
  have Bb7 := (Bb5.below hb6 Bb5.lt).alloc (.cells #[.int .i64 a, .int .i64 d] 31)
  have G7 := (G5.below hb6 G5.lt).alloc (.cells #[.int .i64 a, .int .i64 d] 31)
  have E7 := (E5.below hb6 (Nat.le_refl _)).alloc (.cells #[.int .i64 a, .int .i64 d] 31)
  have B7 := (B5.trans (hb6.mono B5.size)).alloc (B5.trans (hb6.mono B5.size)).size (.cells #[.int .i64 a, .int .i64 d] 31)
  clear Bb5 G5 E5 B5 hb6 km1 km2 kof1
  generalize w6.alloc (.cells #[.int .i64 a, .int .i64 d] 31) = w7 at *
  generalize w6.heap.size = gx at *
  obtain ⟨d0, d1⟩ := blkG G7
  have kg := Lib.hid (greedy_any A m c n es w7 (hT.keep B7) E7 (by omega) hz.out (by omega))
  go_wp2_with fail
  refine kg.out.mono ?_
  clear kg d0 d1
  rintro e w8 ⟨o, ho, hper, Ao, no, co, As, ns, cs, rfl, hco, -, hro, -, hb8, -, -⟩
  have hord := Lib.hid ho
  have hperm := Lib.hid hper
  obtain rfl : n = no := by rw [← hro.len]; exact hper.1.symm
  clear ho hper
  obtain ⟨pN, hpN⟩ : ∃ pN, (recK n es o n).2.1 = pN := ⟨_, rfl⟩
  obtain ⟨pD, hpD⟩ : ∃ pD, fixD (recK n es o n).2.2 = pD := ⟨_, rfl⟩
  rw [hpN, hpD]
  have hpk2 := Lib.hid (And.intro hpN hpD)
  clear hpN hpD
  have Bx8 := Bx7.below hb8 Bx7.lt
  have Bb8 := Bb7.below hb8 Bb7.lt
  have G8 := G7.below hb8 G7.lt
  have E8 := E7.below hb8 (Nat.le_refl _)
  have B8 := B7.trans (hb8.mono B7.size)
  clear Bx7 Bb7 G7 E7 B7 hb8
  go_upto_region 5 with fail
  have Bp9 := Blk.new w8 33 #[.slice Ao n co, .slice As ns cs, .int .i64 pN, .int .i64 pD]
  have Bx9 := Bx8.alloc (.cells #[.slice Ao n co, .slice As ns cs, .int .i64 pN, .int .i64 pD] 33)
  have Bb9 := Bb8.alloc (.cells #[.slice Ao n co, .slice As ns cs, .int .i64 pN, .int .i64 pD] 33)
  have G9 := G8.alloc (.cells #[.slice Ao n co, .slice As ns cs, .int .i64 pN, .int .i64 pD] 33)
  have E9 := E8.alloc (.cells #[.slice Ao n co, .slice As ns cs, .int .i64 pN, .int .i64 pD] 33)
  have R9 := hro.alloc (.cells #[.slice Ao n co, .slice As ns cs, .int .i64 pN, .int .i64 pD] 33)
  have B9 := B8.alloc B8.size (.cells #[.slice Ao n co, .slice As ns cs, .int .i64 pN, .int .i64 pD] 33)
  clear Bx8 Bb8 G8 E8 B8 hro
  generalize w8.alloc (.cells #[.slice Ao n co, .slice As ns cs, .int .i64 pN, .int .i64 pD] 33) = w9 at *
  generalize w8.heap.size = gp at *
  obtain ⟨d0, d1⟩ := blkG G9
  obtain ⟨x0, x1⟩ := blkF_ Bx9
  have kr := Lib.hid (rounds_any A m c n es a d w9 (hT.keep B9) E9 (by omega) hz.out (by omega) hokx.out (by omega) (by omega))
  go_wp2_with fail
  refine kr.out.mono ?_
  clear kr d0 d1 x0 x1
  rintro e w10 ⟨Al, nl, cl, Aq, nq, cq, At, nt', ct, rfl, hcl, -, -, hRl, -, -, hb10⟩
  have hnl : nl ≤ n := by have h1 := hRl.len; have h2 := rndK_len (n := n) (es := es) (a := a) (d := d) n; omega
  obtain ⟨qN, hqN⟩ : ∃ qN, (rndK n es a d n).2.1.2.1 = qN := ⟨_, rfl⟩
  obtain ⟨qD, hqD⟩ : ∃ qD, fixD (rndK n es a d n).2.1.2.2 = qD := ⟨_, rfl⟩
  rw [hqN, hqD]
  have hpk3 := Lib.hid (And.intro hqN hqD)
  clear hqN hqD hRl
  have Bp10 := Bp9.below hb10 Bp9.lt
  have Bx10 := Bx9.below hb10 Bx9.lt
  have Bb10 := Bb9.below hb10 Bb9.lt
  have G10 := G9.below hb10 G9.lt
  have E10 := E9.below hb10 (Nat.le_refl _)
  have R10 := R9.below hb10 (Nat.le_refl _)
  have B10 := B9.trans (hb10.mono B9.size)
  clear Bp9 Bx9 Bb9 G9 E9 R9 B9 hb10
  go_upto_region 6 with fail
  have Bq11 := Blk.new w10 33 #[.slice Aq nq cq, .slice At nt' ct, .int .i64 qN, .int .i64 qD]
  have Bp11 := Bp10.alloc (.cells #[.slice Aq nq cq, .slice At nt' ct, .int .i64 qN, .int .i64 qD] 33)
  have Bx11 := Bx10.alloc (.cells #[.slice Aq nq cq, .slice At nt' ct, .int .i64 qN, .int .i64 qD] 33)
  have Bb11 := Bb10.alloc (.cells #[.slice Aq nq cq, .slice At nt' ct, .int .i64 qN, .int .i64 qD] 33)
  have G11 := G10.alloc (.cells #[.slice Aq nq cq, .slice At nt' ct, .int .i64 qN, .int .i64 qD] 33)
  have E11 := E10.alloc (.cells #[.slice Aq nq cq, .slice At nt' ct, .int .i64 qN, .int .i64 qD] 33)
  have R11 := R10.alloc (.cells #[.slice Aq nq cq, .slice At nt' ct, .int .i64 qN, .int .i64 qD] 33)
  have B11 := B10.alloc B10.size (.cells #[.slice Aq nq cq, .slice At nt' ct, .int .i64 qN, .int .i64 qD] 33)
  clear Bp10 Bx10 Bb10 G10 E10 R10 B10
  generalize w10.alloc (.cells #[.slice Aq nq cq, .slice At nt' ct, .int .i64 qN, .int .i64 qD] 33) = w11 at *
  generalize w10.heap.size = gq at *
  obtain ⟨d0, d1⟩ := blkG G11
  have p0 := Blk.cell Bp11 0
  simp at p0
  have kl := Lib.hid (plimit_any A m c n es Ao n co o w11 E11 (by omega) R11 hco (by omega) hz.out (by omega) hperm.out)
  go_wp2_with fail
  refine kl.out.mono ?_
  clear kl d0 d1 p0 R11
  rintro e w12 ⟨ls, rfl, hls, hb12⟩
  have Bq12 := Bq11.below hb12 Bq11.lt
  have Bp12 := Bp11.below hb12 Bp11.lt
  have Bx12 := Bx11.below hb12 Bx11.lt
  have Bb12 := Bb11.below hb12 Bb11.lt
  have G12 := G11.below hb12 G11.lt
  have E12 := E11.below hb12 (Nat.le_refl _)
  have B12 := B11.trans (hb12.mono B11.size)
  clear Bq11 Bp11 Bx11 Bb11 G11 E11 B11 hb12
  obtain ⟨d0, d1⟩ := blkG G12
  have kdg := rDegeneracy_any A m c n es w12 E12 (by omega)
  rw [hz.out] at kdg
  replace kdg := Lib.hid kdg
  replace hls := Lib.hid hls
  go_wp2_with fail
  refine kdg.out.mono ?_
  clear kdg d0 d1
  rintro e w13 ⟨nls, rfl, hnls, hb13⟩
  have hdeg : maxL nls = maxL ls := by
    have h1 := hnls.1 hz.out
    have h2 := hord.out.1 hz.out
    rw [Int.toNat_natCast] at h1 h2
    exact Int.le_antisymm (order_ge (fun v => nbG_irr v) h1 hperm.out hls.out) (order_le h1 h2.1 h2.2 hls.out)
  rw [hdeg]
  clear hnls hdeg
  have Bq13 := Bq12.below hb13 Bq12.lt
  have Bp13 := Bp12.below hb13 Bp12.lt
  have Bx13 := Bx12.below hb13 Bx12.lt
  have Bb13 := Bb12.below hb13 Bb12.lt
  have G13 := G12.below hb13 G12.lt
  have B13 := B12.trans (hb13.mono B12.size)
  clear Bq12 Bp12 Bx12 Bb12 G12 E12 B12 hb13
  -- the numbers
  obtain ⟨num, den, Ip, sp, Iq, sq, Fb, Fp, Fq, v1, v2, v3, v4, v5, v6, v7, v8, u1, u2, u3, u4, u5⟩ := factor_nat (a := a) (d := d) hz.out (by omega) hel hord.out hperm.out hls.out
  rw [hpk.out.1, hpk.out.2] at Fb
  rw [hpk2.out.1, hpk2.out.2] at Fp
  rw [hpk2.out.1] at v5
  rw [hpk2.out.2] at v6
  rw [hpk3.out.1, hpk3.out.2] at Fq
  rw [hpk3.out.1] at v7
  rw [hpk3.out.2] at v8
  have hml := maxL_nonneg ls
  have hls64 : maxL ls ≤ 64 := by
    refine maxL_le (by omega) fun x hx => ?_
    obtain ⟨i, hi⟩ := List.mem_iff_getElem?.1 hx
    have hin : i < n := by have := (List.getElem?_eq_some_iff.1 hi).1; rw [hls.out.1] at this; exact this
    have hio := per_all hperm.out hin
    obtain ⟨k, hk⟩ := List.mem_iff_getElem?.1 hio
    have h1 := hls.out.2 k i hk
    rw [Int.toNat_natCast, List.getD_eq_getElem?_getD, hi] at h1
    have h2 := dg_le (nbG n es) (o.drop (k + 1)) (i : Int)
    have h3 : (nbG n es (i : Int)).length ≤ 64 := by rw [← row_nb hz.out (by omega) i, nts_length]; exact bl_length _
    simp only [Option.getD_some] at h1
    omega
  obtain ⟨L, hL⟩ := Int.eq_ofNat_of_zero_le hml
  rw [hL] at u3 ⊢
  rw [hL] at hls64
  have hL64 : L ≤ 64 := by omega
  clear hls hord hperm hpk hpk2 hpk3 hml hls64 hL
  have F2 := FrV.mk_ 2 1 Nat.one_pos (by omega) (by omega)
  have Ft := FrV.mk_ (2 * (d + a)) d hd0 (by omega) (by omega)
  have FL := FrV.mk_ L 1 Nat.one_pos (by omega) (by omega)
  obtain ⟨tN, tD, e1, e2, _, e4, e5, _⟩ := mk_val (2 * (d + a)) d hd0 (by omega) (by omega)
  obtain ⟨sN, sD, f1, f2, _, f4, f5, _⟩ := mk_val 2 1 Nat.one_pos (by omega) (by omega)
  have kof2 := fun w => of_f 2 1 w (by omega) (by omega) (by omega) (by omega)
  have kof3 := fun w => of_f ((2 * (d + a) : Nat) : Int) (d : Int) w (by omega) (by omega) (by omega) (by omega)
  have kof4 := fun w => of_f (L : Int) 1 w (by omega) (by omega) (by omega) (by omega)
  have F2' : FrV (mkN 2 1) (mkD 2 1) 2 1 := F2
  have f1' : mkN 2 1 = (sN : Int) := f1
  have f2' : mkD 2 1 = (sD : Int) := f2
  rw [f1', f2'] at kof2 F2'
  rw [e1, e2] at kof3 Ft
  have FL' : FrV (mkN (L : Int) 1) (mkD (L : Int) 1) L 1 := FL
  have hM : (4096 * 4096 : Nat) ≤ M := by unfold M; omega
  have Fm1 := Fp.mul F2' (Nat.le_trans (Nat.mul_le_mul v5 (show ((sN : Nat) : Int).natAbs ≤ 4096 by simp; omega)) hM) (Nat.le_trans (Nat.mul_le_mul (Nat.le_trans v6 (by omega)) (show ((sD : Nat) : Int).natAbs ≤ 4096 by simp; omega)) hM)
  have Fm2 := Fq.mul Ft (Nat.le_trans (Nat.mul_le_mul v7 (show ((tN : Nat) : Int).natAbs ≤ 4096 by simp; omega)) hM) (Nat.le_trans (Nat.mul_le_mul (Nat.le_trans v8 (by omega)) (show ((tD : Nat) : Int).natAbs ≤ 4096 by simp; omega)) hM)
  have z1 : cmpF bN bD (mulN pN pD sN sD) (mulD pN pD sN sD) ≤ 0 := Fb.cmp Fm1 (by rw [Nat.mul_one, Nat.mul_comm Ip 2]; exact u1)
  have z2 : cmpF bN bD (mulN qN qD tN tD) (mulD qN qD tN tD) ≤ 0 := Fb.cmp Fm2 u2
  have z3 : cmpF bN bD (mkN (L : Int) 1) (mkD (L : Int) 1) ≤ 0 := Fb.cmp FL' (by
    rw [Nat.mul_one]
    have h : (num : Int) ≤ ((L * den : Nat) : Int) := by rw [Int.natCast_mul]; exact u3
    omega)
  have z4 : cmpF pN pD bN bD ≤ 0 := Fp.cmp Fb u4
  have z5 : cmpF qN qD bN bD ≤ 0 := Fq.cmp Fb u5
  have okp := Fp.1
  have okq := Fq.1
  have kv1 := fun w => rvalid_any pN pD w
  have kv2 := fun w => rvalid_any qN qD w
  rw [okp] at kv1
  rw [okq] at kv2
  have kmu1 := fun w => rMul_any pN pD sN sD w
  have kmu2 := fun w => rMul_any qN qD tN tD w
  have kc1 := fun w => rCmp_any bN bD (mulN pN pD sN sD) (mulD pN pD sN sD) w
  have kc2 := fun w => rCmp_any bN bD (mulN qN qD tN tD) (mulD qN qD tN tD) w
  have kc3 := fun w => rCmp_any bN bD (mkN (L : Int) 1) (mkD (L : Int) 1) w
  have kc4 := fun w => rCmp_any pN pD bN bD w
  have kc5 := fun w => rCmp_any qN qD bN bD w
  generalize cmpF bN bD (mulN pN pD sN sD) (mulD pN pD sN sD) = C1 at *
  generalize cmpF bN bD (mulN qN qD tN tD) (mulD qN qD tN tD) = C2 at *
  generalize cmpF bN bD (mkN (L : Int) 1) (mkD (L : Int) 1) = C3 at *
  generalize cmpF pN pD bN bD = C4 at *
  generalize cmpF qN qD bN bD = C5 at *
  clear F2 Ft FL F2' FL' Fm1 Fm2 Fb Fp Fq u1 u2 u3 u4 u5 v1 v2 v3 v4 v5 v6 v7 v8 e1 e2 e4 e5 f1 f2 f4 f5 f1' f2' hM okp okq
  generalize mulN pN pD sN sD = mN at *
  generalize mulD pN pD sN sD = mD at *
  generalize mulE pN pD sN sD = mE at *
  generalize mulN qN qD tN tD = rN at *
  generalize mulD qN qD tN tD = rD at *
  generalize mulE qN qD tN tD = rE at *
  generalize mkN (L : Int) 1 = lN at *
  generalize mkD (L : Int) 1 = lD at *
  replace kv1 := Lib.hid kv1
  replace kv2 := Lib.hid kv2
  replace kmu1 := Lib.hid kmu1
  replace kmu2 := Lib.hid kmu2
  replace kc1 := Lib.hid kc1
  replace kc2 := Lib.hid kc2
  replace kc3 := Lib.hid kc3
  replace kc4 := Lib.hid kc4
  replace kc5 := Lib.hid kc5
  replace kof2 := Lib.hid kof2
  replace kof3 := Lib.hid kof3
  replace kof4 := Lib.hid kof4
  -- region 8
  have p2 := Blk.cell Bp13 2
  have p3 := Blk.cell Bp13 3
  have q2 := Blk.cell Bq13 2
  have q3 := Blk.cell Bq13 3
  simp at p2 p3 q2 q3
  obtain ⟨d0, d1⟩ := blkG G13
  have hgpl := Bp13.lt
  have hgql := Bq13.lt
  have hggl := G13.lt
  have i9 : ¬ (n : Int) < (nl : Int) := by omega
  have pa : ∀ w', Below w13.heap.size w13 w' → w'.cell? ⟨gp, 2, none⟩ = some (.int .i64 pN) ∧ w'.cell? ⟨gp, 3, none⟩ = some (.int .i64 pD) ∧ w'.cell? ⟨gq, 2, none⟩ = some (.int .i64 qN) ∧ w'.cell? ⟨gq, 3, none⟩ = some (.int .i64 qD) ∧ w'.cell? ⟨gg, 0, none⟩ = some (.int .i64 n) := fun w' hb => ⟨(hb.cell (p := ⟨gp, 2, none⟩) hgpl).trans p2, (hb.cell (p := ⟨gp, 3, none⟩) hgpl).trans p3, (hb.cell (p := ⟨gq, 2, none⟩) hgql).trans q2, (hb.cell (p := ⟨gq, 3, none⟩) hgql).trans q3, (hb.cell (p := ⟨gg, 0, none⟩) hggl).trans d0⟩
  replace pa := Lib.hid pa
  go_upto_region 10 with (first
    | (go_at_call 15; with_reducible refine (kv1.out _).mono ?_; rintro e w14 ⟨rfl, hb14⟩; obtain ⟨y0, y1, y2, y3, y4⟩ := pa.out _ hb14)
    | (go_at_call 15; with_reducible refine (kv2.out _).mono ?_; rintro e w15 ⟨rfl, hb15⟩
       have hb135 := hb14.trans (hb15.mono hb14.size)
       obtain ⟨y5, y6, y7, y8, y9⟩ := pa.out _ hb135)
    | fail)
  have Bp15 := Bp13.below hb135 hgpl
  have Bq15 := Bq13.below hb135 hgql
  have Bx15 := Bx13.below hb135 Bx13.lt
  have Bb15 := Bb13.below hb135 Bb13.lt
  have B15 := B13.trans (hb135.mono B13.size)
  clear Bp13 Bq13 Bx13 Bb13 G13 B13 hb14 hb15 hb135 pa y0 y1 y2 y3 y4 y5 y6 y7 y8 y9 p2 p3 q2 q3 d0 d1 hgpl hgql hggl kv1 kv2
  have p2 := Blk.cell Bp15 2
  have p3 := Blk.cell Bp15 3
  simp at p2 p3
  have hgp := Bp15.lt
  go_cut [21] (fun p wx => ∃ gy : Nat, p = .pointer (some ⟨gy, 0, none⟩) ∧ Blk wx gy 31 #[.int .i64 mN, .int .i64 mD] ∧ Below w15.heap.size w15 wx)
  case first =>
    have hnb := Blk.new w15 31 #[.int .i64 0, .int .i64 0]
    have BN : Below w15.heap.size w15 w15 := Below.refl _ _
    have hnn7_gp := Lib.hid (fun i j e => by injection e with e; omega : ∀ i j : Nat, (⟨w15.heap.size, i, none⟩ : Addr) ≠ ⟨gp, j, none⟩)
    go_region_held3 (fun w' => w'.cell? ⟨gp, 2, none⟩ = some (.int .i64 pN) ∧ w'.cell? ⟨gp, 3, none⟩ = some (.int .i64 pD))
      ((first
        | (exact ⟨(BN.cell (p := ⟨gp, 2, none⟩) hgp).trans p2, (BN.cell (p := ⟨gp, 3, none⟩) hgp).trans p3⟩)
        | (exact ⟨(World.cell?_alloc_lt _ _ _ (hlt9_gp)).trans ((BN.cell (p := ⟨gp, 2, none⟩) hgp).trans p2), (World.cell?_alloc_lt _ _ _ (hlt9_gp)).trans ((BN.cell (p := ⟨gp, 3, none⟩) hgp).trans p3)⟩)
        | (exact ⟨(World.cell?_alloc_lt _ _ _ (hlt8_gp)).trans ((BN.cell (p := ⟨gp, 2, none⟩) hgp).trans p2), (World.cell?_alloc_lt _ _ _ (hlt8_gp)).trans ((BN.cell (p := ⟨gp, 3, none⟩) hgp).trans p3)⟩)
        | (exact ⟨(World.cell?_setCell_other _ _ _ _ (hnn7_gp.out _ _)).trans ((World.cell?_setCell_other _ _ _ _ (hnn7_gp.out _ _)).trans ((BN.cell (p := ⟨gp, 2, none⟩) hgp).trans p2)), (World.cell?_setCell_other _ _ _ _ (hnn7_gp.out _ _)).trans ((World.cell?_setCell_other _ _ _ _ (hnn7_gp.out _ _)).trans ((BN.cell (p := ⟨gp, 3, none⟩) hgp).trans p3))⟩)
        | (exact ⟨(World.cell?_setCell_other _ _ _ _ (hnn8_gp.out _ _)).trans ((World.cell?_setCell_other _ _ _ _ (hnn8_gp.out _ _)).trans ((BN.cell (p := ⟨gp, 2, none⟩) hgp).trans p2)), (World.cell?_setCell_other _ _ _ _ (hnn8_gp.out _ _)).trans ((World.cell?_setCell_other _ _ _ _ (hnn8_gp.out _ _)).trans ((BN.cell (p := ⟨gp, 3, none⟩) hgp).trans p3))⟩)
        | ((repeat' apply And.intro) <;> (go_keep; done))))
      ((first
        | (go_at_call 18; (with_reducible refine (kof2.out _).mono ?_); rintro e w8 ⟨rfl, hb8⟩; replace BN : Below w15.heap.size w15 w8 := (by first | exact below_call BN.drew hb8 | exact below_call (BN.alloc (Nat.le_refl _) _).drew hb8);
           have hle8 := BN.size;
           have hlt8_gp : gp < w8.heap.size := Nat.lt_of_lt_of_le hgp BN.size;
           have hnn8_gp := Lib.hid (fun i j e => by injection e with e; omega : ∀ i j : Nat, (⟨w8.heap.size, i, none⟩ : Addr) ≠ ⟨gp, j, none⟩);
           try (have hzb := Blk.below hnb.drew hb8 (Blk.lt hnb)))
        | (go_at_call 28; (with_reducible refine (kmu1.out _).mono ?_); rintro e w9 ⟨rfl, hb9⟩;
           first | (replace hzb := Blk.below hzb hb9 (Blk.lt hzb)) | (have hzb := Blk.below (Blk.new w8 31 #[.int .i64 0, .int .i64 0]) hb9 (Blk.lt (Blk.new w8 31 #[.int .i64 0, .int .i64 0]))) | skip;
           replace BN : Below w15.heap.size w15 w9 := (by first | exact below_call BN hb9 | exact below_call (BN.alloc BN.size _) hb9);
           have hlt9_gp : gp < w9.heap.size := Nat.lt_of_lt_of_le hgp BN.size;
           try (obtain ⟨z0, z1⟩ := blkF_ hzb; have z2 := Blk.frozen hzb 0; have z3 := Blk.frozen hzb 1))))
    all_goals go_wp2_with fail
    all_goals go_meet
    · exact ⟨w9.heap.size, rfl, Blk.new _ _ _, BN.alloc BN.size _⟩
    · exact ⟨w8.heap.size, rfl, Blk.set (Blk.set hzb 0 (.int .i64 mN)) 1 (.int .i64 mD), (BN.setCell (p := ⟨w8.heap.size, 0, none⟩) hle8 (.int .i64 mN)).setCell (p := ⟨w8.heap.size, 1, none⟩) hle8 (.int .i64 mD)⟩
    · exact ⟨w15.heap.size, rfl, Blk.set (Blk.set hzb 0 (.int .i64 mN)) 1 (.int .i64 mD), (BN.setCell (p := ⟨w15.heap.size, 0, none⟩) (Nat.le_refl _) (.int .i64 mN)).setCell (p := ⟨w15.heap.size, 1, none⟩) (Nat.le_refl _) (.int .i64 mD)⟩
  case rest =>
    obtain ⟨gm, rfl, Bm16, hbx⟩ := hcut
    obtain ⟨w16, rfl⟩ : ∃ w16, w16 = wc := ⟨_, rfl⟩
    have Bp16 := Bp15.below hbx hgp
    have Bq16 := Bq15.below hbx Bq15.lt
    have Bx16 := Bx15.below hbx Bx15.lt
    have Bb16 := Bb15.below hbx Bb15.lt
    have B16 := B15.trans (hbx.mono B15.size)
    clear Bp15 Bq15 Bx15 Bb15 B15 hbx p2 p3 hgp kof2 kmu1
    have q2 := Blk.cell Bq16 2
    have q3 := Blk.cell Bq16 3
    have x0 := Blk.cell Bx16 0
    have x1 := Blk.cell Bx16 1
    simp at q2 q3 x0 x1
    have hgq := Bq16.lt
    have hgx := Bx16.lt
    have j3 : IntKind.i64.wrap ((d : Int) + (a : Int)) = ((d + a : Nat) : Int) := by rw [← Int.natCast_add]; exact IntWalk.i64_in _ ⟨by omega, by omega⟩
    have j4 : IntKind.i64.wrap (2 * ((d + a : Nat) : Int)) = ((2 * (d + a) : Nat) : Int) := by rw [Int.natCast_mul]; exact IntWalk.i64_in _ ⟨by omega, by omega⟩
    generalize 2 * (d + a) = T2 at *
    generalize d + a = T1 at *
    go_upto_region 11 with fail
    go_cut [23] (fun p wx => ∃ gy : Nat, p = .pointer (some ⟨gy, 0, none⟩) ∧ Blk wx gy 31 #[.int .i64 rN, .int .i64 rD] ∧ Below w16.heap.size w16 wx)
    case first =>
      have hnb := Blk.new w16 31 #[.int .i64 0, .int .i64 0]
      have BN : Below w16.heap.size w16 w16 := Below.refl _ _
      have hnn7_gq := Lib.hid (fun i j e => by injection e with e; omega : ∀ i j : Nat, (⟨w16.heap.size, i, none⟩ : Addr) ≠ ⟨gq, j, none⟩)
      have hnn7_gx := Lib.hid (fun i j e => by injection e with e; omega : ∀ i j : Nat, (⟨w16.heap.size, i, none⟩ : Addr) ≠ ⟨gx, j, none⟩)
      go_region_held3 (fun w' => w'.cell? ⟨gq, 2, none⟩ = some (.int .i64 qN) ∧ w'.cell? ⟨gq, 3, none⟩ = some (.int .i64 qD) ∧ w'.cell? ⟨gx, 0, none⟩ = some (.int .i64 a) ∧ w'.cell? ⟨gx, 1, none⟩ = some (.int .i64 d))
        ((first
          | (exact ⟨(BN.cell (p := ⟨gq, 2, none⟩) hgq).trans q2, (BN.cell (p := ⟨gq, 3, none⟩) hgq).trans q3, (BN.cell (p := ⟨gx, 0, none⟩) hgx).trans x0, (BN.cell (p := ⟨gx, 1, none⟩) hgx).trans x1⟩)
          | (exact ⟨(World.cell?_alloc_lt _ _ _ (hlt9_gq)).trans ((BN.cell (p := ⟨gq, 2, none⟩) hgq).trans q2), (World.cell?_alloc_lt _ _ _ (hlt9_gq)).trans ((BN.cell (p := ⟨gq, 3, none⟩) hgq).trans q3), (World.cell?_alloc_lt _ _ _ (hlt9_gx)).trans ((BN.cell (p := ⟨gx, 0, none⟩) hgx).trans x0), (World.cell?_alloc_lt _ _ _ (hlt9_gx)).trans ((BN.cell (p := ⟨gx, 1, none⟩) hgx).trans x1)⟩)
          | (exact ⟨(World.cell?_alloc_lt _ _ _ (hlt8_gq)).trans ((BN.cell (p := ⟨gq, 2, none⟩) hgq).trans q2), (World.cell?_alloc_lt _ _ _ (hlt8_gq)).trans ((BN.cell (p := ⟨gq, 3, none⟩) hgq).trans q3), (World.cell?_alloc_lt _ _ _ (hlt8_gx)).trans ((BN.cell (p := ⟨gx, 0, none⟩) hgx).trans x0), (World.cell?_alloc_lt _ _ _ (hlt8_gx)).trans ((BN.cell (p := ⟨gx, 1, none⟩) hgx).trans x1)⟩)
          | (exact ⟨(World.cell?_setCell_other _ _ _ _ (hnn7_gq.out _ _)).trans ((World.cell?_setCell_other _ _ _ _ (hnn7_gq.out _ _)).trans ((BN.cell (p := ⟨gq, 2, none⟩) hgq).trans q2)), (World.cell?_setCell_other _ _ _ _ (hnn7_gq.out _ _)).trans ((World.cell?_setCell_other _ _ _ _ (hnn7_gq.out _ _)).trans ((BN.cell (p := ⟨gq, 3, none⟩) hgq).trans q3)), (World.cell?_setCell_other _ _ _ _ (hnn7_gx.out _ _)).trans ((World.cell?_setCell_other _ _ _ _ (hnn7_gx.out _ _)).trans ((BN.cell (p := ⟨gx, 0, none⟩) hgx).trans x0)), (World.cell?_setCell_other _ _ _ _ (hnn7_gx.out _ _)).trans ((World.cell?_setCell_other _ _ _ _ (hnn7_gx.out _ _)).trans ((BN.cell (p := ⟨gx, 1, none⟩) hgx).trans x1))⟩)
          | (exact ⟨(World.cell?_setCell_other _ _ _ _ (hnn8_gq.out _ _)).trans ((World.cell?_setCell_other _ _ _ _ (hnn8_gq.out _ _)).trans ((BN.cell (p := ⟨gq, 2, none⟩) hgq).trans q2)), (World.cell?_setCell_other _ _ _ _ (hnn8_gq.out _ _)).trans ((World.cell?_setCell_other _ _ _ _ (hnn8_gq.out _ _)).trans ((BN.cell (p := ⟨gq, 3, none⟩) hgq).trans q3)), (World.cell?_setCell_other _ _ _ _ (hnn8_gx.out _ _)).trans ((World.cell?_setCell_other _ _ _ _ (hnn8_gx.out _ _)).trans ((BN.cell (p := ⟨gx, 0, none⟩) hgx).trans x0)), (World.cell?_setCell_other _ _ _ _ (hnn8_gx.out _ _)).trans ((World.cell?_setCell_other _ _ _ _ (hnn8_gx.out _ _)).trans ((BN.cell (p := ⟨gx, 1, none⟩) hgx).trans x1))⟩)
          | ((repeat' apply And.intro) <;> (go_keep; done))))
        ((first
          | (go_at_call 18; (with_reducible refine (kof3.out _).mono ?_); rintro e w8 ⟨rfl, hb8⟩; replace BN : Below w16.heap.size w16 w8 := (by first | exact below_call BN.drew hb8 | exact below_call (BN.alloc (Nat.le_refl _) _).drew hb8);
             have hle8 := BN.size;
             have hlt8_gq : gq < w8.heap.size := Nat.lt_of_lt_of_le hgq BN.size;
             have hnn8_gq := Lib.hid (fun i j e => by injection e with e; omega : ∀ i j : Nat, (⟨w8.heap.size, i, none⟩ : Addr) ≠ ⟨gq, j, none⟩);
             have hlt8_gx : gx < w8.heap.size := Nat.lt_of_lt_of_le hgx BN.size;
             have hnn8_gx := Lib.hid (fun i j e => by injection e with e; omega : ∀ i j : Nat, (⟨w8.heap.size, i, none⟩ : Addr) ≠ ⟨gx, j, none⟩);
             try (have hzb := Blk.below hnb.drew hb8 (Blk.lt hnb)))
          | (go_at_call 28; (with_reducible refine (kmu2.out _).mono ?_); rintro e w9 ⟨rfl, hb9⟩;
             first | (replace hzb := Blk.below hzb hb9 (Blk.lt hzb)) | (have hzb := Blk.below (Blk.new w8 31 #[.int .i64 0, .int .i64 0]) hb9 (Blk.lt (Blk.new w8 31 #[.int .i64 0, .int .i64 0]))) | skip;
             replace BN : Below w16.heap.size w16 w9 := (by first | exact below_call BN hb9 | exact below_call (BN.alloc BN.size _) hb9);
             have hlt9_gq : gq < w9.heap.size := Nat.lt_of_lt_of_le hgq BN.size;
             have hlt9_gx : gx < w9.heap.size := Nat.lt_of_lt_of_le hgx BN.size;
             try (obtain ⟨z0, z1⟩ := blkF_ hzb; have z2 := Blk.frozen hzb 0; have z3 := Blk.frozen hzb 1))))
      all_goals go_wp2_with fail
      all_goals go_meet
      · exact ⟨w9.heap.size, rfl, Blk.new _ _ _, BN.alloc BN.size _⟩
      · exact ⟨w8.heap.size, rfl, Blk.set (Blk.set hzb 0 (.int .i64 rN)) 1 (.int .i64 rD), (BN.setCell (p := ⟨w8.heap.size, 0, none⟩) hle8 (.int .i64 rN)).setCell (p := ⟨w8.heap.size, 1, none⟩) hle8 (.int .i64 rD)⟩
      · exact ⟨w16.heap.size, rfl, Blk.set (Blk.set hzb 0 (.int .i64 rN)) 1 (.int .i64 rD), (BN.setCell (p := ⟨w16.heap.size, 0, none⟩) (Nat.le_refl _) (.int .i64 rN)).setCell (p := ⟨w16.heap.size, 1, none⟩) (Nat.le_refl _) (.int .i64 rD)⟩
    case rest =>
      obtain ⟨gr, rfl, Br17, hbx⟩ := hcut
      obtain ⟨w17, rfl⟩ : ∃ w17, w17 = wc := ⟨_, rfl⟩
      have Bp17 := Bp16.below hbx Bp16.lt
      have Bq17 := Bq16.below hbx hgq
      have Bm17 := Bm16.below hbx Bm16.lt
      have Bb17 := Bb16.below hbx Bb16.lt
      have B17 := B16.trans (hbx.mono B16.size)
      clear Bp16 Bq16 Bx16 Bb16 Bm16 B16 hbx q2 q3 x0 x1 hgq hgx kof3 kmu2
      have p2' := Blk.cell Bp17 2
      have p3' := Blk.cell Bp17 3
      have q2' := Blk.cell Bq17 2
      have q3' := Blk.cell Bq17 3
      simp at p2' p3' q2' q3'
      obtain ⟨b0', b1'⟩ := blkF_ Bb17
      obtain ⟨m0', m1'⟩ := blkF_ Bm17
      obtain ⟨r0', r1'⟩ := blkF_ Br17
      have p2 : ∀ dd os, (Sort.grow (redrawn w17 dd) os).cell? ⟨gp, 2, none⟩ = some (.int .i64 pN) := fun dd os => cell_regrown p2' dd os
      have p3 : ∀ dd os, (Sort.grow (redrawn w17 dd) os).cell? ⟨gp, 3, none⟩ = some (.int .i64 pD) := fun dd os => cell_regrown p3' dd os
      have q2 : ∀ dd os, (Sort.grow (redrawn w17 dd) os).cell? ⟨gq, 2, none⟩ = some (.int .i64 qN) := fun dd os => cell_regrown q2' dd os
      have q3 : ∀ dd os, (Sort.grow (redrawn w17 dd) os).cell? ⟨gq, 3, none⟩ = some (.int .i64 qD) := fun dd os => cell_regrown q3' dd os
      have b0 : ∀ dd os, (Sort.grow (redrawn w17 dd) os).cell? ⟨gb, 0, none⟩ = some (.int .i64 bN) := fun dd os => cell_regrown b0' dd os
      have b1 : ∀ dd os, (Sort.grow (redrawn w17 dd) os).cell? ⟨gb, 1, none⟩ = some (.int .i64 bD) := fun dd os => cell_regrown b1' dd os
      have m0 : ∀ dd os, (Sort.grow (redrawn w17 dd) os).cell? ⟨gm, 0, none⟩ = some (.int .i64 mN) := fun dd os => cell_regrown m0' dd os
      have m1 : ∀ dd os, (Sort.grow (redrawn w17 dd) os).cell? ⟨gm, 1, none⟩ = some (.int .i64 mD) := fun dd os => cell_regrown m1' dd os
      have r0 : ∀ dd os, (Sort.grow (redrawn w17 dd) os).cell? ⟨gr, 0, none⟩ = some (.int .i64 rN) := fun dd os => cell_regrown r0' dd os
      have r1 : ∀ dd os, (Sort.grow (redrawn w17 dd) os).cell? ⟨gr, 1, none⟩ = some (.int .i64 rD) := fun dd os => cell_regrown r1' dd os
      have c1 := Lib.hid (fun dd os => Calls.regrown_of (kc1.out (Sort.grow (redrawn w17 dd) os)))
      have c2 := Lib.hid (fun dd os => Calls.regrown_of (kc2.out (Sort.grow (redrawn w17 dd) os)))
      have c3 := Lib.hid (fun dd os => Calls.regrown_of (kc3.out (Sort.grow (redrawn w17 dd) os)))
      have c4 := Lib.hid (fun dd os => Calls.regrown_of (kc4.out (Sort.grow (redrawn w17 dd) os)))
      have c5 := Lib.hid (fun dd os => Calls.regrown_of (kc5.out (Sort.grow (redrawn w17 dd) os)))
      have co4 := Lib.hid (fun dd os => Calls.regrown_of (kof4.out (Sort.grow (redrawn w17 dd) os)))
      have hT17 := hT.keep B17
      have caw := Lib.hid (fun dd os => Calls.regrown_of (awake20_any (Sort.grow (redrawn w17 dd) os) (hT17.keep (below_regrown w17 dd os))))
      have e1 : decide (C1 ≤ 0) = true := decide_eq_true z1
      have e2 : decide (C2 ≤ 0) = true := decide_eq_true z2
      have e3 : decide (C3 ≤ 0) = true := decide_eq_true z3
      have e4 : decide (C4 ≤ 0) = true := decide_eq_true z4
      have e5 : decide (C5 ≤ 0) = true := decide_eq_true z5
      clear p2' p3' q2' q3' b0' b1' m0' m1' r0' r1' Bp17 Bq17 Bm17 Bb17 Br17 hT17 kc1 kc2 kc3 kc4 kc5 kof4
      go_upto_region 12 with fail
      refine wp_region_quiet_below (by kernel_rfl) (by kernel_rfl) ?_
      repeat (quiet_step (first | with_reducible exact c1.out _ _ | with_reducible exact c2.out _ _ | with_reducible exact c3.out _ _ | with_reducible exact c4.out _ _ | with_reducible exact c5.out _ _ | with_reducible exact co4.out _ _ | with_reducible exact caw.out _ _))
      refine wpQuiet_nil ?_
      intro _ hw'
      obtain ⟨⟨dq, osq⟩, hw''⟩ := hw'
      subst hw''
      have hbe := B17.trans ((below_regrown w17 dq osq).mono B17.size)
      go_wp2_with fail
      go_ret
      exact ⟨rfl, hbe⟩
end Go.Proofs.YtdibfecejgjfmaaDoor
