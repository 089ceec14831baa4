/- impl.wayOn: the first shortest way to the goal. -/
import Derived.Test.YtldogbahbjompaaKdRemain
import Derived.Test.YtldogbahbjompaaKdTaken
set_option linter.unusedVariables false
set_option linter.unusedSimpArgs false
namespace Go.KD
open Go.RowKit
/-- The nodes of the first k steps on the way. -/
def wayL (nx : Nat → List Nat) (d : Nat → Int) (i k : Nat) : List Int := (List.range k).map fun q => ((posW nx d i (q + 1) / 64 : Nat) : Int)
@[simp] theorem wayL_len (nx : Nat → List Nat) (d : Nat → Int) (i k : Nat) : (wayL nx d i k).length = k := by simp [wayL]
theorem wayL_snoc (nx : Nat → List Nat) (d : Nat → Int) (i k : Nat) : wayL nx d i (k + 1) = wayL nx d i k ++ [((posW nx d i (k + 1) / 64 : Nat) : Int)] := by simp [wayL, List.range_succ]
theorem wayL_at (nx : Nat → List Nat) (d : Nat → Int) (i : Nat) {n k : Nat} (h : k < n) : (wayL nx d i n)[k]! = ((posW nx d i (k + 1) / 64 : Nat) : Int) := by
  rw [getElem!_pos _ k (by rw [wayL_len]; exact h)]; simp [wayL]
theorem id_at (i : Nat) : ∃ x s, i = x * 64 + s ∧ s < 64 ∧ i / 64 = x ∧ i % 64 = s := ⟨i / 64, i % 64, by omega, Nat.mod_lt _ (by omega), rfl, rfl⟩
theorem dpos_lt {nx : Nat → List Nat} {T : Nat → Bool} {d : Nat → Int} (hd : DOk nx T d) (hb : bNx nx) {i n : Nat} (hi : i < 768) (hn : d i = (n : Int)) : n < 768 := by
  have hp : ∀ k, k ≤ n → posW nx d i k < 768 := by
    intro k
    induction k with
    | zero => intro _; exact hi
    | succ k ih => intro hk; exact hb _ (ih (by omega)) _ (posW_mem hd (by rw [hn]; omega))
  have h := bLt_of (l := (List.range (n + 1)).map (posW nx d i)) (n := 768) (by
    unfold List.Nodup
    rw [List.pairwise_map]
    refine List.Pairwise.imp_of_mem (fun {a b} ha hb hne e => ?_) (List.nodup_range (n := n + 1))
    have h1 := posW_d hd i a (by have := List.mem_range.1 ha; omega)
    have h2 := posW_d hd i b (by have := List.mem_range.1 hb; omega)
    rw [e] at h1
    omega) (fun x hx => by
    obtain ⟨k, hk, rfl⟩ := List.mem_map.1 hx
    exact hp k (by have := List.mem_range.1 hk; omega))
  simp at h
  omega
end Go.KD
namespace Go.Proofs.Ytldogbahbjompaa
open Go.RowKit Go.KD
attribute [local go_sem] later_cell later_frozen
set_option maxRecDepth 100000 in
set_option maxHeartbeats 8000000 in
theorem wayOn_c (v : Value) (m : Mz) (x0 s0 n : Nat) (w : World) (hm : MzAt w v m) (ok : MzOk m) (hx0 : (x0 : Int) < m.size) (hs0 : s0 < 64) (hn : dM m (x0 * 64 + s0) = (n : Int)) :
    Calls Try.prog 95 #[v, .agg (ints (gridD (dM m))).toArray, .int .i64 x0, .int .i64 s0] w fun e w' => ∃ u, e = .returned u ∧ w'.ownsRow w.heap.size 3 1 u n (ints (wayL (nxM m) (dM m) (x0 * 64 + s0) n)) ∧ Below w.heap.size w w' := by
  have hM := hm
  obtain ⟨⟨ad, cd, ak, ck, rfl, hd, hk'⟩, nd, nk⟩ := hM
  obtain ⟨i0, ji, jz0, jz1, jz2⟩ := info_parts infoI
  have hsz1 : 1 ≤ m.size := ok.s1
  have hsz2 : m.size ≤ 12 := ok.s2
  have hnk := ok.nk
  obtain ⟨d, hd0⟩ : ∃ d, d = dM m := ⟨_, rfl⟩
  have HDO : Hid (DOk (nxM m) (goalT m) d) := by rw [hd0]; exact dM_ok m
  rw [← hd0] at hn ⊢
  obtain ⟨P, hP⟩ : ∃ P, P = posW (nxM m) d (x0 * 64 + s0) := ⟨_, rfl⟩
  have HPD : Hid (∀ k, k ≤ n → d (P k) = (n : Int) - k) := fun k hk => by rw [hP, posW_d HDO.out _ k (by omega), hn]
  have HP0 : Hid (P 0 = x0 * 64 + s0) := by rw [hP]; exact (rfl : _ = _)
  have HPS : Hid (∀ k, P (k + 1) = nearW (nxM m) d (P k)) := by rw [hP]; exact fun k => rfl
  have HPM : Hid (∀ k, k < n → P (k + 1) ∈ nxM m (P k)) := fun k hk => by rw [hP]; exact posW_mem HDO.out (by rw [hn]; omega)
  have HPB : Hid (∀ k, k ≤ n → ((P k / 64 : Nat) : Int) < m.size) := by
    intro k hk
    cases k with
    | zero => rw [HP0.out]; have : (x0 * 64 + s0) / 64 = x0 := by omega
              rw [this]; exact hx0
    | succ k => exact (nxM_lt ok (HPM.out k (by omega))).1
  obtain ⟨L, hL⟩ : ∃ L, L = wayL (nxM m) d (x0 * 64 + s0) := ⟨_, rfl⟩
  have HLS : Hid (∀ k, L (k + 1) = L k ++ [((P (k + 1) / 64 : Nat) : Int)]) := by rw [hL, hP]; exact fun k => wayL_snoc _ _ _ k
  have HLL : Hid (∀ k, (L k).length = k) := by rw [hL]; exact fun k => wayL_len _ _ _ k
  have HL0 : Hid (L 0 = []) := by rw [hL]; exact (rfl : _ = _)
  rw [← hL]
  obtain ⟨G, hG⟩ : ∃ G, G = gridD d := ⟨_, rfl⟩
  have HGL : Hid (G.length = 768) := by rw [hG]; exact gridD_len _
  have HGD : Hid (∀ i, i < 768 → G[i]! = d i) := by rw [hG]; exact fun i hi => gridD_at d hi
  rw [← hG]
  obtain ⟨p0, hp0⟩ : ∃ p0, p0 = P 0 := ⟨_, rfl⟩
  have HPX : Hid (P 0 / 64 = x0 ∧ P 0 % 64 = s0) := by show _ ∧ _; rw [HP0.out]; omega
  have hn768 : n < 768 := dpos_lt HDO.out (nxM_b ok) (by omega) hn
  have OK := Lib.hid ok
  have HM := Lib.hid hm
  have HK := Lib.hid hk'
  have HGR : Hid (GrA ((w.alloc (.cells #[.int .i64 m.size, .slice ad m.doors.length cd, .slice ak m.keys.length ck] 29)).alloc (.cells (ints G).toArray 75)) (w.heap.size + 1) G) := by
    have := GrA.new (w.alloc (.cells #[.int .i64 m.size, .slice ad m.doors.length cd, .slice ak m.keys.length ck] 29)) 75 HGL.out
    rw [World.size_alloc] at this
    exact this
  obtain ⟨W2, hW2⟩ : ∃ W2, W2 = ((w.alloc (.cells #[.int .i64 m.size, .slice ad m.doors.length cd, .slice ak m.keys.length ck] 29)).alloc (.cells (ints G).toArray 75)) := ⟨_, rfl⟩
  have hz2 : W2.heap.size = w.heap.size + 2 := by rw [hW2]; simp
  have HZ2 := Lib.hid hz2
  have HE0 : Hid ((W2.alloc (.cells #[] 3)).ownsRow (w.heap.size + 2) 3 1 (.slice (some ⟨w.heap.size + 2, 0, none⟩) 0 0) 0 (ints (L 0))) := by
    have h := World.ownsRow_lit (base := w.heap.size + 2) (e := 3) (size := 1) W2 #[] 0 (by omega) (by unfold maxLen; omega) rfl
    rw [hz2] at h
    rw [HL0.out]
    exact h
  have HGR2 : Hid (GrA W2 (w.heap.size + 1) G) := by rw [hW2]; exact HGR.out
  have HX2 : Hid (Below (w.heap.size + 1) (w.alloc (.cells #[.int .i64 m.size, .slice ad m.doors.length cd, .slice ak m.keys.length ck] 29)) W2) := by rw [hW2]; exact (Below.refl _ _).alloc (by simp) _
  have HW2 := Lib.hid hW2
  clear hd0 hP hL hG hm ok hk' hd hn hx0 hs0 hp0 HGR hz2 hW2
  go_enter Try.func95, Try.ntmps95
  go_wp2
  rw [← HW2.out]
  go_loopg [2, 3, 9] n (fun q xv sv ov wr => ∃ k xk sk : Nat, q = n - k ∧ k ≤ n ∧ xv = .int .i64 xk ∧ sv = .int .i64 sk ∧ Hid (P k / 64 = xk ∧ P k % 64 = sk) ∧ Hid (wr.ownsRow (w.heap.size + 2) 3 1 ov k (ints (L k))) ∧ Hid (Below (w.heap.size + 1) (w.alloc (.cells #[.int .i64 m.size, .slice ad m.doors.length cd, .slice ak m.keys.length ck] 29)) wr) ∧ Hid (GrA wr (w.heap.size + 1) G))
  case atStart => exact ⟨0, x0, s0, rfl, Nat.zero_le _, rfl, rfl, HPX, HE0, HX2.out.alloc (by have := HZ2.out; omega) _, HGR2.out.later ((Below.refl _ _).alloc (Nat.le_refl _) _)⟩
  case round =>
    clear HE0 HGR2 HX2 HPX
    obtain ⟨wo, rfl⟩ : ∃ wo : World, wo = wr := ⟨_, rfl⟩
    obtain ⟨k, xk, sk, hq, hk, rfl, rfl, HXS, HO, HBo, HG⟩ := hrel
    have HQ := Lib.hid hq
    clear hq
    have HB : Hid (Below w.heap.size w wo) := below_box HBo.out (by omega)
    obtain ⟨q0, q1, q2, z1⟩ := box3 HBo.out (by omega)
    have hgl := HG.out.lt
    obtain ⟨aO, cO, rfl⟩ := own_slice HO.out
    have hxb := HPB.out k hk
    rw [HXS.out.1] at hxb
    have hx12 : xk < 12 := by omega
    have hxI : (xk : Int) < 12 := by omega
    have hs64 : sk < 64 := by have := HXS.out.2; omega
    have hsI : (sk : Int) < 64 := by omega
    have HPK : Hid (P k = xk * 64 + sk) := by have := HXS.out; show _ = _; omega
    have ec0 := HG.out.cell (xk * 64 + sk) (by omega)
    rw [HGD.out _ (by omega), ← HPK.out, HPD.out k hk, HPK.out] at ec0
    obtain ⟨cv, hcv⟩ : ∃ cv : Int, cv = (n : Int) - k := ⟨_, rfl⟩
    rw [← hcv] at ec0
    by_cases hlt : k < n
    · have hcv0 : 0 < cv := by omega
      have hcv1 : cv ≤ 768 := by omega
      have HCV := Lib.hid hcv
      clear hcv
      obtain ⟨YL, hYL⟩ : ∃ YL, YL = stpN m xk sk 12 := ⟨_, rfl⟩
      have HYL : Hid (mem (stN m (xk : Int) sk) = natsI YL) := by rw [hYL]; exact (stpN_size OK.out xk sk (by omega) (by omega)).symm
      have HYN : Hid (nxM m (xk * 64 + sk) = YL.map (Go.KD.stM m sk)) := by rw [hYL]; exact nxM_at hxb hs64
      have HYM : Hid (∀ y ∈ YL, y < 12 ∧ (y : Int) < m.size) := by
        rw [hYL]
        intro y hy
        rw [stpN_mem] at hy
        exact ⟨hy.1, (stN_bits OK.out hy.2).1⟩
      have hYl : YL.length ≤ 12 := by rw [hYL]; exact stpN_len _ _ _ _
      clear hYL
      go_wp2_with (first
        | (go_at_call 141; refine (steps_c _ m (xk : Int) sk _ (HM.out.later HB.out) OK.out).mono ?_; rintro e w4 ⟨rfl, hb4⟩; have HB4 := Lib.hid hb4; clear hb4)
        | (go_at_call 108; refine (members_c _ (Nat.lt_of_lt_of_le (stN_lt OK.out _ _) (by decide)) _).mono ?_; rintro e w5 ⟨u5, rfl, ho5, hb5⟩; rw [HYL.out, natsI_len] at ho5; obtain ⟨a5, c5, rfl⟩ := own_slice ho5; have HB5 : Hid (Below w4.heap.size w4 w5) := hb5; have HO5 : Hid (Own w4.heap.size w5.heap.size w5 3 1 (.slice a5 YL.length c5) YL.length (ints (natsI YL))) := Own.of ho5; clear ho5 hb5))
      have hz4 := HB4.out.size
      have hz5 := HB5.out.size
      have HX5 : Hid (Below wo.heap.size wo w5) := HB4.out.trans (HB5.out.mono hz4)
      clear q0 q1 q2 HB4 ec0
      go_loopw [2, 3, 25] (fun xv sv jv wr => ∃ j : Nat, jv = .int .i64 j ∧ j ≤ YL.length ∧ xv = .int .i64 xk ∧ sv = .int .i64 sk ∧ Hid (Below w5.heap.size w5 wr) ∧ Hid (∀ q, q < j → ¬ d (nxM m (xk * 64 + sk))[q]! = cv - 1)) (fun _ _ jv _ => YL.length - (intOf jv).toNat)
      case atStart => exact ⟨0, rfl, Nat.zero_le _, rfl, rfl, Below.refl _ _, fun q hq => absurd hq (Nat.not_lt_zero q)⟩
      case round =>
        obtain ⟨wz, rfl⟩ : ∃ wz : World, wz = wr := ⟨_, rfl⟩
        obtain ⟨j, rfl, hj, rfl, rfl, HBz, HNO⟩ := hrel
        have hzz := HBz.out.size
        have HXz : Hid (Below wo.heap.size wo wz) := HX5.out.trans (HBz.out.mono (by omega))
        have HBz2 : Hid (Below (w.heap.size + 1) (w.alloc (.cells #[.int .i64 m.size, .slice ad m.doors.length cd, .slice ak m.keys.length ck] 29)) wz) := HBo.out.trans (HXz.out.mono (by omega))
        have HGz : Hid (GrA wz (w.heap.size + 1) G) := HG.out.later HXz.out
        have HBw : Hid (Below w.heap.size w wz) := below_box HBz2.out (by omega)
        by_cases hlt3 : j < YL.length
        · have hjI : (j : Int) < (YL.length : Int) := by omega
          have hjm : YL[j]! ∈ YL := by rw [getElem!_pos YL j hlt3]; exact List.getElem_mem hlt3
          obtain ⟨hy12, hys⟩ := HYM.out _ hjm
          obtain ⟨b8, off8, av, ha8, HX, hbs8, e8⟩ := (ic_of' (HO5.out.later HBz.out (Nat.le_refl _)) (natsI_len YL).symm).at j (by rw [natsI_len]; exact hlt3)
          subst ha8
          have hav := HX.out
          rw [natsI_at hlt3] at hav
          obtain ⟨y, hy⟩ : ∃ y, y = YL[j]! := ⟨_, rfl⟩
          rw [← hy] at hy12 hys hav
          subst hav
          have hyI : (y : Int) < 12 := by omega
          obtain ⟨bk, offk, kx, hak, HKX, hbsk, ek⟩ := (HK.out.later HBw.out).at y (by omega)
          subst hak
          have hkx := key_facts OK.out (k := y) (by omega)
          rw [HKX.out] at hkx
          obtain ⟨kn, rfl⟩ := Int.eq_ofNat_of_zero_le hkx.1
          have hkn : kn < 64 := by omega
          obtain ⟨t, ht⟩ : ∃ t, t = sk ||| kn := ⟨_, rfl⟩
          have ht64 : t < 64 := by rw [ht]; exact Nat.or_lt_two_pow (n := 6) hs64 hkn
          have eo : bits .or .i64 (sk : Int) (kn : Int) = (t : Int) := by rw [ht]; exact i64_or sk kn (by omega) (by omega)
          have HAT : Hid ((nxM m (xk * 64 + sk))[j]! = y * 64 + t) := by
            show _ = _
            rw [HYN.out, getElem!_pos _ j (by simpa using hlt3), List.getElem_map, ← getElem!_pos YL j hlt3, ← hy]
            unfold Go.KD.stM
            rw [HKX.out, Int.toNat_natCast, ht]
          have htI : (t : Int) < 64 := by omega
          have ec := HGz.out.cell (y * 64 + t) (by omega)
          rw [HGD.out _ (by omega)] at ec
          have ei := HGz.out.cell (xk * 64 + sk) (by omega)
          rw [HGD.out _ (by omega), ← HPK.out, HPD.out k hk, HPK.out, ← HCV.out] at ei
          obtain ⟨gv, hgv⟩ : ∃ gv, gv = d (y * 64 + t) := ⟨_, rfl⟩
          rw [← hgv] at ec
          have HGV := Lib.hid hgv
          obtain ⟨q0, q1, q2, z2⟩ := box3 HBz2.out (by omega)
          have hzA : w.heap.size + 1 < wz.heap.size := HGz.out.lt
          have hcw : IntKind.i64.wrap (cv - 1) = cv - 1 := by rw [IntKind.wrap_i64]; omega
          clear ht hy hkx hjm hgv
          by_cases hgc : gv = cv - 1
          · have hbb : (gv == cv - 1) = true := by rw [hgc]; simp
            have HNEAR : Hid (P (k + 1) = y * 64 + t) := by
              show _ = _
              rw [HPS.out, HPK.out, nearW_at (k := j) (by rw [HYN.out, List.length_map]; exact hlt3) (by rw [HAT.out, ← HGV.out, ← HPK.out, HPD.out k hk, ← HCV.out]; exact hgc) (fun q hq => by rw [← HPK.out, HPD.out k hk, ← HCV.out, HPK.out]; exact HNO.out q hq), HAT.out]
            clear hgc
            go_upto_region 6 with fail
            refine wp_region_later (wz.heap.size) (by kernel_rfl) (by kernel_rfl) ?_
            repeat (first | go_big_quiet_skip | (go_big_quiet_want; go_big_quiet_op; go_big_quiet_on))
            refine wpQuiet_nil ?_
            rintro w9 ⟨⟨w9', hb9⟩, h9⟩
            change w9 = w9' at h9
            subst h9
            have HX9 : Hid (Below wo.heap.size wo w9) := HXz.out.trans (hb9.mono (by omega))
            have HBx9 : Hid (Below (w.heap.size + 1) (w.alloc (.cells #[.int .i64 m.size, .slice ad m.doors.length cd, .slice (some ⟨bk, offk, none⟩) m.keys.length ck] 29)) w9) := HBo.out.trans (HX9.out.mono (by omega))
            have hz9 := hb9.size
            have ek9 := (hb9.cell (p := ⟨bk, offk + y, none⟩) hbsk).trans ek
            have hbk9 : bk < w9.heap.size := by omega
            clear hb9 q0 q1 q2 e8 ek ec ei
            obtain ⟨q0, q1, q2, z9⟩ := box3 HBx9.out (by omega)
            go_upto_region 7 with fail
            refine wp_region_later (w9.heap.size) (by kernel_rfl) (by kernel_rfl) ?_
            repeat (first | go_big_quiet_skip | (go_big_quiet_want; go_big_quiet_op; go_big_quiet_on))
            refine wpQuiet_nil ?_
            rintro w8 ⟨⟨w8', hb8⟩, h8⟩
            change w8 = w8' at h8
            subst h8
            have HX8 : Hid (Below wo.heap.size wo w8) := HX9.out.trans (hb8.mono (by omega))
            have HBx8 : Hid (Below (w.heap.size + 1) (w.alloc (.cells #[.int .i64 m.size, .slice ad m.doors.length cd, .slice (some ⟨bk, offk, none⟩) m.keys.length ck] 29)) w8) := HBo.out.trans (HX8.out.mono (by omega))
            have HO8 : Hid (w8.ownsRow (w.heap.size + 2) 3 1 (.slice aO k cO) k (ints (L k))) := own_below HO.out HX8.out
            have HG8 : Hid (GrA w8 (w.heap.size + 1) G) := HG.out.later HX8.out
            have hz8 := HX8.out.size
            have HXN : Hid (P (k + 1) / 64 = y ∧ P (k + 1) % 64 = t) := by show _ ∧ _; rw [HNEAR.out]; omega
            clear hb8 q0 q1 q2 ek9
            go_wp2_with (at_builtin; refine wpList_append_own _ rfl _ _ 23 rfl (w.heap.size + 2) 3 i0 (.int .i64 0) 1 8 Try.underlying23 ji jz0 jz1 jz2 rfl (by decide) _ _ _ rfl (HO8.out.alloc _) ⟨w8.heap.size, 0, none⟩ 1 1 [.int .i64 y] rfl rfl ?_ ?_ ?_ ?_ ?_ ?_; (exact cell_one_new _ _ _); (simp [Value.oneCell']); (unfold maxLen; omega); omega; (simp; omega); intro v' w3 hown' hgrow hat')
            have HG3 : Hid (GrA w3 (w.heap.size + 1) G) := (HG8.out.later ((Below.refl _ _).alloc (Nat.le_refl _) _)).grown hgrow (fun e => by have := own_block_lo HO8.out e; omega)
            have HB3 : Hid (Below (w.heap.size + 1) (w.alloc (.cells #[.int .i64 m.size, .slice ad m.doors.length cd, .slice (some ⟨bk, offk, none⟩) m.keys.length ck] 29)) w3) := (HBx8.out.alloc (by omega) _).grown hgrow (by simp; omega) (fun g hg => by have := own_block_lo HO8.out hg; omega)
            have HO3 : Hid (w3.ownsRow (w.heap.size + 2) 3 1 v' (k + 1) (ints (L (k + 1)))) := by rw [HLS.out, HXN.out.1, ints_snoc]; exact hown'
            clear hown' hgrow hat'
            go_wp2
            go_roundg (n - (k + 1))
            case measure => rw [HQ.out]; omega
            case rel => exact ⟨k + 1, y, t, rfl, by omega, rfl, rfl, HXN, HO3, HB3, HG3⟩
          · have hbb : (gv == cv - 1) = false := by simpa using hgc
            have HNO2 : Hid (∀ q, q < j + 1 → ¬ d (nxM m (xk * 64 + sk))[q]! = cv - 1) := hid_stepT HNO (by rw [HAT.out, ← HGV.out]; exact hgc)
            clear hgc
            go_upto_region 6 with fail
            refine wp_region_later (wz.heap.size) (by kernel_rfl) (by kernel_rfl) ?_
            repeat (first | go_big_quiet_skip | (go_big_quiet_want; go_big_quiet_op; go_big_quiet_on))
            refine wpQuiet_nil ?_
            rintro w9 ⟨⟨w9', hb9⟩, h9⟩
            change w9 = w9' at h9
            subst h9
            have HB9 : Hid (Below w5.heap.size w5 w9) := HBz.out.trans (hb9.mono (by omega))
            clear hb9 q0 q1 q2 e8 ek ec ei
            go_wp2
            go_roundw
            case rel => exact ⟨j + 1, by go_num, by omega, rfl, rfl, HB9, HNO2⟩
            case measure => simp [intOf]; omega
        · exfalso
          obtain ⟨h1, h2⟩ := nearW_ok HDO.out (i := P k) (by rw [HPD.out k hk]; omega)
          rw [HPK.out] at h1 h2
          obtain ⟨q, hq, he⟩ := List.mem_iff_getElem.1 h1
          rw [← HPK.out, HPD.out k hk, ← HCV.out, HPK.out] at h2
          refine HNO.out q (by rw [HYN.out, List.length_map] at hq; omega) ?_
          rw [getElem!_pos _ q hq, he]; exact h2
    · obtain rfl : n = k := by omega
      have hcv0 : cv = 0 := by omega
      subst hcv0
      clear hcv
      go_wp2
      go_ret
      exact ⟨_, rfl, (Own.mono (Own.of HO.out) (by omega) (Nat.le_refl _)).row, HB.out⟩
end Go.Proofs.Ytldogbahbjompaa
