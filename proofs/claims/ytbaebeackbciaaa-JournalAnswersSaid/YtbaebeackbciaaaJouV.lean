/- The law JournalCuts. -/
import Derived.Test.YtbaebeackbciaaaJouJ
import Derived.Test.YtbaebeackbciaaaJouK
import Derived.Test.YtbaebeackbciaaaJouH
import Derived.Laws.BytesArg
set_option linter.unusedVariables false
set_option linter.unusedSimpArgs false
namespace Go.Proofs.Ytbaebeackbciaaa
open Go.RowKit CoEv

/-- The string of bytes. -/
def stB (xs : List Nat) : ByteArray := (xs.map (fun (x : Nat) => (x : Int))).foldl (fun r n => r.push (UInt8.ofNat n.toNat)) ByteArray.empty
theorem conv_str (A : Option Addr) (n c : Nat) (xs : List Nat) (w : World) (h : RS BE w A n xs) : (convert 26 9 (.slice A n c)).run Try.prog w = .ok (.string (stB xs)) w := by
  rw [run_convert_bytes_string w 26 9 5 A n c Try.underlying26 Try.underlying5 Try.underlying9]
  have hl := h.len
  cases A with
  | none =>
    have h0 : n = 0 := by
      rcases Nat.eq_zero_or_pos n with h0 | h0
      · exact h0
      · obtain ⟨ad, x, e, _⟩ := h.byte h0; cases e
    subst h0
    obtain rfl := List.eq_nil_of_length_eq_zero hl
    simp [Conv.bytesToString, stB]
  | some ad =>
    refine run_bytesToString w ad n c (xs.map (fun (x : Nat) => (x : Int))) ?_
    have := run_loadCells_list (P := Try.prog) w ad ((xs.map (fun (x : Nat) => (x : Int))).map (Value.int .u8)) (fun j v hj => by
      rw [List.getElem?_map, List.getElem?_map] at hj
      cases hx : xs[j]? with
      | none => rw [hx] at hj; cases hj
      | some x =>
        rw [hx] at hj
        have hlt : j < n := by have := (List.getElem?_eq_some_iff.1 hx).1; omega
        obtain ⟨ad', x', e, _, hx', hc⟩ := h.byte hlt
        injection e with e; subst e
        have h2 := hx'.out; rw [hx] at h2; injection h2 with h2; subst h2
        rw [hc]; simpa using hj)
    simpa [hl] using this
theorem flat5 {L : List (List Ev)} (h : ∀ l ∈ L, l.length ≤ 5) : L.flatten.length ≤ 5 * L.length := by
  induction L with
  | nil => simp
  | cons a r ih =>
    have h1 := h a (by simp)
    have h2 := ih fun l hl => h l (by simp [hl])
    rw [List.flatten_cons, List.length_append, List.length_cons]; omega
theorem wrE_of_rt {n : Nat} {l : List Ev} (h : Rt l) (hn : n + 10 * l.length + 6 ≤ 1048576) : wrE n l = 0 := by
  obtain ⟨h1, h2, h3⟩ := h
  unfold wrE
  rw [if_neg (by omega), if_neg (by omega)]
  exact h3
theorem apL_of_rt {L : List (List Ev)} {l : List Ev} (h : Rt l) (hn : (joi L).length + 10 * l.length + 6 ≤ 1048576) : apL (joi L) l = joi (L ++ [l]) := by
  unfold apL
  rw [if_pos (wrE_of_rt h hn), joi_append, joi_one]
theorem jend_le {L : List (List Ev)} {k : Nat} (hk : k ≤ L.length) : jend L k ≤ (joi L).length := by
  have : joi L = joi (L.take k) ++ joi (L.drop k) := by rw [← joi_append, List.take_append_drop]
  unfold jend
  rw [this, List.length_append]; omega

set_option maxRecDepth 100000 in
set_option maxHeartbeats 8000000 in
theorem lawCuts_any (A0 : Option Addr) (n0 c0 : Nat) (xs0 : List Int) (at' : Nat) (w : World) (h0 : RI w A0 n0 xs0) (hc0 : n0 ≤ c0) (hn0 : n0 ≤ 17592186044416) (hat : at' < 65536) :
    Calls Try.prog 6 #[.slice A0 n0 c0, .int .u16 at'] w fun e w' => e = .returned (.bool true) ∧ Below w.heap.size w w' := by
  have kaw := Lib.hid fun w => awake35_any w
  have kf := fun w => few_any A0 n0 c0 w
  by_cases hfew : n0 ≤ 500
  · rw [decide_eq_true hfew] at kf
    replace kf := Lib.hid kf
    have kn := Lib.hid fun w h => new_any A0 n0 c0 xs0 w h hc0 (by omega)
    have km := Lib.hid fun g w h => made35_any g w h
    go_enter Try.func6, Try.ntmps6
    go_wp2_with fail
    (with_reducible refine (kf.out _).mono ?_); rintro e wf ⟨rfl, hQ⟩; obtain rfl := hQ
    go_wp2_with fail
    (with_reducible refine (kn.out _ h0).mono ?_)
    rintro e w1 ⟨rfl, hD1, hb1, hs1⟩
    go_wp2_with fail
    (with_reducible refine (km.out _ _ hD1).mono ?_)
    rintro e w2 ⟨A, n, c, B, m, d, L, rfl, hnc, hr, hmd, hrL, hrt, hL3, hl5, _, hg2, hfA, hfB⟩
    have BW : Below w.heap.size w w2 := hb1.trans (below_of_grown hg2 (Nat.le_refl _) (by omega))
    have hnl := hr.len
    have hml := hrL.len
    have hjl := joi_len hl5
    have hn168 : n ≤ 168 := by omega
    replace hrt := Lib.hid hrt
    replace hl5 := Lib.hid hl5
    have hjn : (joi L).length = n := hnl
    replace hjn := Lib.hid hjn
    have hm3 : m ≤ 3 := by omega
    replace hml := Lib.hid hml
    have q3 : IntKind.i64.wrap (at' : Int) = (at' : Int) := by rw [IntKind.wrap_i64]; omega
    have q4 : ¬ (n : Int) + 1 = 0 := by omega
    have hi : at' % (n + 1) < n + 1 := Nat.mod_lt _ (by omega)
    have hmod : (at' : Int) % ((n : Int) + 1) = ((at' % (n + 1) : Nat) : Int) := by rw [Int.natCast_emod, Int.natCast_add]; rfl
    clear hb1 hD1 hg2 kn km h0 hnl hjl
    go_upto_region 6 with fail
    rw [hmod]
    generalize at' % (n + 1) = N at *
    have hNn : N ≤ n := by omega
    clear q3 q4 hi hmod hat
    have hrN := hr.head hNn
    have hbN : Byt ((joi L).take N) := (joi_byt L).take N
    have hread : ∀ k, k ≤ L.length → jend L k ≤ N → (∀ l, L[k]? = some l → N < jend L k + 6 + 10 * l.length) → IsRead ((joi L).take N) (L.take k) (jend L k) := fun k hk h1 h2 => read_cut hrt.out (by rw [hjn.out]; exact hNn) hk h1 h2
    replace hread := Lib.hid hread
    have kr := Lib.hid fun w h => jread_any A N c ((joi L).take N) w h hbN (by omega) (by omega)
    have krc := Lib.hid fun w h => jrecover_any A N c ((joi L).take N) w h hbN (by omega) (by omega)
    have hs2 := BW.size
    go_wp2_with fail
    go_loop [9, 10] (fun e k => ∃ kk : Nat, kk ≤ m ∧ k = .int .i64 kk ∧ e = .int .i64 (jend L kk : Nat) ∧ jend L kk ≤ N) (fun _ k => m - (intOf k).toNat)
    case atStart => exact ⟨0, Nat.zero_le _, rfl, rfl, Nat.zero_le _⟩
    case round =>
      obtain ⟨kk, hkL, rfl, rfl, hend⟩ := hrel
      have hend9 : jend L kk ≤ 168 := by omega
      have hways : (kk < m ∧ ∃ bd A5 n5 c5, B = some bd ∧ w2.cell? (bd.add kk) = some (.slice A5 n5 c5) ∧ bd.block < w2.heap.size ∧ n5 ≤ 5 ∧
          ((jend L kk + 6 + 10 * n5 ≤ N ∧ jend L (kk + 1) = jend L kk + 6 + 10 * n5) ∨ (N < jend L kk + 6 + 10 * n5 ∧ Hid (IsRead ((joi L).take N) (L.take kk) (jend L kk))))) ∨ (kk = m ∧ Hid (IsRead ((joi L).take N) (L.take kk) (jend L kk))) := by
        rcases Nat.lt_or_ge kk m with hlt | hge
        · obtain ⟨bd, A5, n5, c5, l, rfl, hcl, hyl, hnc5, hr5, hbl5⟩ := hrL.get (i := kk) hlt
          have hl5l := hl5.out l (List.mem_of_getElem? hyl.out)
          have hn5 := hr5.len
          refine .inl ⟨hlt, bd, A5, n5, c5, rfl, hcl, hbl5, by omega, ?_⟩
          rcases Nat.lt_or_ge N (jend L kk + 6 + 10 * n5) with h1 | h1
          · refine .inr ⟨h1, Lib.hid (hread.out kk (by have := hml.out; omega) hend (fun l' hl' => ?_))⟩
            have h2 := hyl.out
            rw [hl'] at h2; injection h2 with h2; subst h2; omega
          · exact .inl ⟨h1, by rw [jend_succ hyl.out]; omega⟩
        · refine .inr ⟨by omega, Lib.hid (hread.out kk (by have := hml.out; omega) hend (fun l' hl' => ?_))⟩
          have := (List.getElem?_eq_some_iff.1 hl').1
          have := hml.out; omega
      clear hread
      rcases hways with ⟨hlt, bd, A5, n5, c5, rfl, hcl, hbl5, hn5, ⟨hgo, hsucc⟩ | ⟨hgo, hrd⟩⟩ | ⟨hkm, hrd⟩
      · have q5 : decide ((jend L kk : Int) + 6 + 10 * (n5 : Int) ≤ (N : Int)) = true := by simp; omega
        have i2 : (0 : Int) ≤ (kk : Int) := Int.natCast_nonneg _
        have i3 : (kk : Int) < (m : Int) := by omega
        have hsucc' : ((jend L kk : Nat) : Int) + (6 + 10 * (n5 : Int)) = ((jend L (kk + 1) : Nat) : Int) := by omega
        replace hsucc := Lib.hid hsucc
        go_wp2_with fail
        go_round
        case rel => exact ⟨kk + 1, by omega, by go_num, by first | rfl | rw [hsucc'], by have := hsucc.out; omega⟩
        case measure => simp [intOf]; omega
      case' inl.inr =>
        have q5 : decide ((jend L kk : Int) + 6 + 10 * (n5 : Int) ≤ (N : Int)) = false := by simp; omega
        have i2 : (0 : Int) ≤ (kk : Int) := Int.natCast_nonneg _
        have i3 : (kk : Int) < (m : Int) := by omega
        go_upto_region 10 with fail
        clear hcl hbl5 q5 i3 hlt hn5 hgo
        generalize some bd = B at *
      case' inr =>
        have i2 : (0 : Int) ≤ (kk : Int) := Int.natCast_nonneg _
        have i3 : ¬ (kk : Int) < (m : Int) := by omega
        replace hkm := Lib.hid hkm
        go_upto_region 10 with fail
        clear i3
      all_goals
        have i6 : (0 : Int) ≤ (N : Int) := Int.natCast_nonneg _
        have i7 : (N : Int) ≤ (c : Int) := by omega
        go_wp2_with fail
        (with_reducible refine (kr.out _ hrN).mono ?_)
        rintro e w3 ⟨A6, n6, c6, L6, k6, rfl, hc6, hr6, hrd6, hb3, hf6⟩
        obtain ⟨rfl, rfl⟩ := hrd6.unique hrd.out
        have BW3 := BW.trans (hb3.mono BW.size)
        go_wp2_with fail
        (with_reducible refine (krc.out _ (hrN.below hb3 (Nat.le_refl _))).mono ?_)
        rintro e w4 ⟨A7, n7, c7, A8, n8, c8, L7, k7, rfl, hc7, hr7, hc8, hr8, hrd7, hb4, hf7, hf8⟩
        obtain ⟨rfl, rfl⟩ := hrd7.unique hrd.out
        have hr84 : RS BE w4 A8 n8 (joi (L.take kk)) := by rw [List.take_take, Nat.min_eq_left hend, joi_take] at hr8; exact hr8
        have hb24 := hb3.trans (hb4.mono hb3.size)
        have BW4 := BW.trans (hb24.mono BW.size)
        have hrL4 := hrL.below hb24 (Nat.le_refl _)
        have hr4 := (hr.below hb24 (Nat.le_refl _)).head (k := jend L kk) (by omega)
        rw [joi_take] at hr4
        have hr64 := hr6.below hb4 (Nat.le_refl _)
        have hflat : ∀ j, (L.take j).flatten.length ≤ 15 := fun j => by
          have h1 := flat5 (L := L.take j) (fun l hl => hl5.out l (List.mem_of_mem_take hl))
          rw [List.length_take] at h1; omega
        have hn6 := Lib.hid hr64.len
        have hn7 := Lib.hid hr7.len
        have hn8 := Lib.hid hr84.len
        clear hr8 hrd6 hrd7 hb3 hb4 hrN hr hr6 kr krc BW3 BW
        replace hflat := Lib.hid hflat
        go_wp2_with fail
        go_loopw [15, 16] (fun all i wr => ∃ (v : Value) (ii : Nat), v = all ∧ i = .int .i64 ii ∧ ii ≤ kk ∧ OS EE 55 wr w4.heap.size v (L.take ii).flatten ∧ Below w4.heap.size w4 wr) (fun _ i _ => kk - (intOf i).toNat)
        case atStart => exact ⟨_, 0, rfl, rfl, Nat.zero_le _, OS.nil_, Below.refl _ _⟩
        case round =>
          obtain ⟨v, ii, rfl, rfl, hik, ho, hb⟩ := hrel
          by_cases hlt : ii < kk
          · obtain ⟨bd, A5, n5, c5, ys, rfl, hcl, hyl, hnc5, hr5, hbl5⟩ := (hrL4.below hb (Nat.le_refl _)).get (i := ii) (by omega)
            have e3 := hr5.len
            have e4 : (L.take (ii + 1)).flatten = (L.take ii).flatten ++ ys := flat_take' hyl.out
            have e5 := hflat.out ii
            have e6 := hl5.out ys (List.mem_of_getElem? hyl.out)
            have i3 : (ii : Int) < (kk : Int) := by omega
            have i4 : (ii : Int) < (m : Int) := by omega
            have i5 : (0 : Int) ≤ (ii : Int) := Int.natCast_nonneg _
            have hs := hb.size
            rw [e3] at e6
            replace e3 := Lib.hid e3
            clear hyl
            go_wp2_with (at_builtin; refine wpList_catG tyE rfl _ _ rfl rfl rfl ho hr5 (by unfold maxLen; omega) (by omega) hs ?_; intro v5 w5 ho5 hb5 hg5)
            rw [← e4] at ho5
            have hb6 := hb.trans hb5
            clear ho hb hb5 hg5 hr5 hcl e4
            go_roundw
            case rel => exact ⟨_, ii + 1, rfl, by go_num, by omega, ho5, hb6⟩
            case measure => simp [intOf]; omega
          · obtain rfl : kk = ii := by omega
            obtain ⟨A9, n9, c9, rfl, hn9, hc9, _, hr9, hf9⟩ := ho.form
            replace hn9 := Lib.hid hn9
            have BWr := BW4.trans (hb.mono BW4.size)
            have hrLr := hrL4.below hb (Nat.le_refl _)
            have hrLk := hrLr.head (k := kk) hkL
            have hr6r := hr64.below hb (Nat.le_refl _)
            have hr7r := hr7.below hb (Nat.le_refl _)
            have hr8r := hr84.below hb (Nat.le_refl _)
            have hr4r := hr4.below hb (Nat.le_refl _)
            have i4 : (kk : Int) ≤ (d : Int) := by omega
            have i5 : ((jend L kk : Nat) : Int) ≤ (c : Int) := by omega
            have i8 : (0 : Int) ≤ ((jend L kk : Nat) : Int) := Int.natCast_nonneg _
            have hLk5 : ∀ l ∈ L.take kk, l.length ≤ 1099511627776 := fun l hl => by have := hl5.out l (List.mem_of_mem_take hl); omega
            have ksm := Lib.hid fun w h h' => lsame_any A6 B n6 kk c6 d (L.take kk) w h h' (by have := hn6.out; rw [List.length_take] at this; omega) hLk5
            have kes := Lib.hid fun w h h' => evsame_any A7 A9 n7 n9 c7 c9 (L.take kk).flatten w h h' (by have := hflat.out kk; have := hn7.out; omega)
            have kcv := Lib.hid fun (A : Option Addr) (n c : Nat) w h => conv_str A n c (joi (L.take kk)) w h
            clear ho hb hr64 hr7 hr84 hr4 hrL4 BW4 hLk5
            go_upto_region 17 with fail
            have BN : Below wr.heap.size wr wr := Below.refl _ _
            go_loud (go_region_held3 (fun w' => (convert 26 9 (.slice A8 n8 c8)).run Try.prog w' = .ok (.string (stB (joi (L.take kk)))) w' ∧ (convert 26 9 (.slice A (jend L kk) c)).run Try.prog w' = .ok (.string (stB (joi (L.take kk)))) w')
              (exact ⟨kcv.out _ _ _ _ (by first | exact hr8r | exact hr8r.drew | exact (hr8r.below BN (Nat.le_refl _)) | exact (hr8r.below BN (Nat.le_refl _)).drew | exact (hr8r.below BN (Nat.le_refl _)).drewN _), kcv.out _ _ _ _ (by first | exact hr4r | exact hr4r.drew | exact (hr4r.below BN (Nat.le_refl _)) | exact (hr4r.below BN (Nat.le_refl _)).drew | exact (hr4r.below BN (Nat.le_refl _)).drewN _)⟩) ((first
              | (go_at_call 14; (with_reducible refine (ksm.out _ (hr6r.below BN.drew (Nat.le_refl _)) (hrLk.below BN.drew (Nat.le_refl _))).mono ?_); rintro e w5 ⟨rfl, hb5⟩; replace BN := BN.drew.trans (hb5.mono BN.size))
              | (go_at_call 20; (with_reducible refine (kes.out _ (by first | exact (hr7r.below BN (Nat.le_refl _)).drew | exact (hr7r.below BN (Nat.le_refl _)) | exact (hr7r.below BN (Nat.le_refl _)).drewN _) (by first | exact (hr9.below BN (Nat.le_refl _)).drew | exact (hr9.below BN (Nat.le_refl _)) | exact (hr9.below BN (Nat.le_refl _)).drewN _)).mono ?_); rintro e w6 ⟨rfl, hb6⟩; (first | replace BN := BN.drew.trans (hb6.mono BN.size) | replace BN := BN.trans (hb6.mono BN.size) | replace BN := (below_drewN BN _).trans (hb6.mono BN.size))))))
            have BWn := BWr.trans (BN.mono BWr.size)
            have hrLn := hrLr.below BN (Nat.le_refl _)
            have hr8n := hr8r.below BN (Nat.le_refl _)
            have hrt' : ∀ y, y ∈ L → Rts (L.take kk ++ [y]) := fun y hy => Rts.snoc (fun a ha => hrt.out a (List.mem_of_mem_take ha)) (hrt.out y hy)
            have hlk : (L.take kk).length = kk := by rw [List.length_take]; have := hml.out; omega
            replace hrt' := Lib.hid hrt'
            replace hlk := Lib.hid hlk
            have hn8b : n8 ≤ 168 := by rw [← hn8.out]; exact hend9
            have ka := Lib.hid fun (A : Option Addr) (n c : Nat) y w hj h hn => jappend_any A8 n8 c8 (joi (L.take kk)) A n c y w hj hc8 h hn (by omega)
            have kr := Lib.hid fun (A : Option Addr) (n c : Nat) bs w h hB hc hn => jread_any A n c bs w h hB hc hn
            have kes := Lib.hid fun (A B : Option Addr) (n m c d : Nat) xs w h h' hn => evsame_any A B n m c d xs w h h' hn
            clear hr9 hr7r hr6r hr4r hr8r hrLr hrLk ksm kcv BWr
            go_wp2_with fail
            go_loopw [121] (fun i wr => ∃ j : Nat, j ≤ m ∧ i = .int .i64 j ∧ Below w.heap.size w wr ∧ RL EE wr B m L ∧ RS BE wr A8 n8 (joi (L.take kk))) (fun i _ => m - (intOf i).toNat)
            case atStart => exact ⟨0, Nat.zero_le _, rfl, BWn, hrLn, hr8n⟩
            case round =>
              clear BWn hrLn hr8n BN
              obtain ⟨j, hj, rfl, hb, hrLj, hr8j⟩ := hrel
              by_cases hlt : j < m
              · obtain ⟨bd, A10, n10, c10, y, rfl, hcl, hyl, hnc10, hr10, hbl10⟩ := hrLj.get (i := j) hlt
                have hy := List.mem_of_getElem? hyl.out
                have hrd' := Lib.hid (read_all (hrt'.out y hy))
                have hry := hrt.out y hy
                have hy5 := hl5.out y hy
                have hn10 := hr10.len
                have hap := apL_of_rt (L := L.take kk) hry (by rw [hn8.out]; omega)
                have hwr : wrE (joi (L.take kk)).length y = 0 := wrE_of_rt hry (by rw [hn8.out]; omega)
                have kay := fun w hj h => ka.out A10 n10 c10 y w hj h (by omega)
                rw [hap, hwr] at kay
                replace kay := Lib.hid kay
                have i3 : (j : Int) < (m : Int) := by omega
                have i4 : (0 : Int) ≤ (j : Int) := Int.natCast_nonneg _
                have hs := hb.size
                clear hap hwr hry
                go_wp2_with fail
                (with_reducible refine (kay.out _ hr8j hr10).mono ?_)
                rintro e w11 ⟨A11, n11, c11, rfl, hc11, hr11, hb11, hf11⟩
                have hn11 := hr11.len
                have hnb : n11 ≤ 1099511627776 := by rw [← hn11, joi_append, joi_one, List.length_append, btc_len, hn8.out]; omega
                go_wp2_with fail
                (with_reducible refine (kr.out _ _ _ _ _ hr11 (joi_byt _) hc11 hnb).mono ?_)
                rintro e w12 ⟨A12, n12, c12, L12, k12, rfl, hc12, hr12, hrd12, hb12, hf12⟩
                obtain ⟨rfl, hk12⟩ := hrd12.unique hrd'.out
                have hkn : k12 = n11 := by rw [hk12]; exact hn11
                have hn12 : n12 = kk + 1 := by rw [← hr12.len, List.length_append, hlk.out]; rfl
                obtain ⟨ad, A13, n13, c13, y', rfl, hcl13, hy', hnc13, hr13, hbl13⟩ := hr12.get (i := kk) (by omega)
                have hyy : y' = y := by
                  have h2 := hy'.out
                  rw [List.getElem?_append_right (by rw [hlk.out]; omega), hlk.out, Nat.sub_self] at h2
                  injection h2 with h2; exact h2.symm
                subst hyy
                have q6 : ((k12 : Int) != (n11 : Int)) = false := by simp; omega
                have q7 : ((n12 : Int) != (kk : Int) + 1) = false := by simp; omega
                have i5 : (kk : Int) < (n12 : Int) := by omega
                have hb2 := hb11.trans (hb12.mono hb11.size)
                have hr10n := hr10.below hb2 (Nat.le_refl _)
                have hrLn := hrLj.below hb2 (Nat.le_refl _)
                have hr8n := hr8j.below hb2 (Nat.le_refl _)
                have hbn := hb.trans (hb2.mono hs)
                have hn13 := hr13.len
                have hn13b : n13 ≤ 1099511627776 := by omega
                replace hk12 := Lib.hid hk12
                replace hn11 := Lib.hid hn11
                replace hn12 := Lib.hid hn12
                replace hkn := Lib.hid hkn
                replace hn13 := Lib.hid hn13
                replace hn10 := Lib.hid hn10
                clear hb11 hb12 hrLj hr8j hr10 hr11 hr12 hrd12 hb hcl hyl hy'
                go_wp2_with fail
                (with_reducible refine (kes.out _ _ _ _ _ _ _ _ hr13 hr10n hn13b).mono ?_)
                rintro e w14 ⟨rfl, hb14⟩
                go_wp2_with fail
                go_roundw
                case rel => exact ⟨j + 1, by omega, by go_num, hbn.trans (hb14.mono hbn.size), hrLn.below hb14 (Nat.le_refl _), hr8n.below hb14 (Nat.le_refl _)⟩
                case measure => simp [intOf]; omega
              · obtain rfl : j = m := by omega
                go_wp2_with fail
                (with_reducible refine (kaw.out _).mono ?_); rintro e w9 ⟨rfl, hb9⟩
                go_wp2_with fail
                go_ret
                exact ⟨rfl, hb.trans (hb9.mono hb.size)⟩
  · rw [decide_eq_false hfew] at kf
    replace kf := Lib.hid kf
    go_enter Try.func6, Try.ntmps6
    go_wp2_with fail
    (with_reducible refine (kf.out _).mono ?_); rintro e wf ⟨rfl, hQ⟩; obtain rfl := hQ
    go_wp2_with fail
    (with_reducible refine (kaw.out _).mono ?_); rintro e w1 ⟨rfl, hb1⟩
    go_wp2_with fail
    go_ret
    exact ⟨rfl, hb1⟩
end Go.Proofs.Ytbaebeackbciaaa
