/- The reference's states behind a step, and its least numbers of steps to the goal: spec.l4Step, spec.l4Remain. -/
import Derived.Test.YtldogbahbjompaaKdDistM
import Derived.Test.YtldogbahbjompaaKdSteps2
import Derived.Test.YtldogbahbjompaaKdSpr
import Derived.Test.YtldogbahbjompaaKdThose
import Derived.Deep.DeepCutAuto
import Derived.Deep.RegionHeld3
set_option linter.unusedVariables false
set_option linter.unusedSimpArgs false
namespace Go.KD
open Go.RowKit
theorem stpN_yes {m : Mz} {x s k : Nat} (h : (stN m x s).testBit k = true) : stpN m x s (k + 1) = stpN m x s k ++ [k] := by simp [stpN, List.range_succ, List.filter_append, h]
theorem stpN_no {m : Mz} {x s k : Nat} (h : (stN m x s).testBit k = false) : stpN m x s (k + 1) = stpN m x s k := by simp [stpN, List.range_succ, List.filter_append, h]
theorem stpL_yes {m : Mz} {x s k : Nat} (h : (stN m x s).testBit k = true) : stpL m x s (k + 1) = stpL m x s k ++ [Go.KD.stM m s k] := by unfold stpL; rw [stpN_yes h, List.map_append]; rfl
theorem stpL_no {m : Mz} {x s k : Nat} (h : (stN m x s).testBit k = false) : stpL m x s (k + 1) = stpL m x s k := by unfold stpL; rw [stpN_no h]
theorem stpL_len (m : Mz) (x s k : Nat) : (stpL m x s k).length ≤ k := by unfold stpL; rw [List.length_map]; exact Nat.le_trans (List.length_filter_le _ _) (by simp)
def gridDn (n : Nat) (d : Nat → Int) : List Int := (List.range n).map d
theorem gridDn_len (n : Nat) (d : Nat → Int) : (gridDn n d).length = n := by simp [gridDn]
theorem gridDn_at {n : Nat} (d : Nat → Int) {i : Nat} (h : i < n) : (gridDn n d)[i]! = d i := by rw [getElem!_pos _ i (by rw [gridDn_len]; exact h)]; simp [gridDn]
theorem gridDn_eq {n : Nat} {d : Nat → Int} {G : List Int} (hl : G.length = n) (h : ∀ i : Nat, i < n → G[i]! = d i) : G = gridDn n d := by
  apply List.ext_getElem
  · rw [hl, gridDn_len]
  · intro i h1 h2
    have h3 : i < n := hl ▸ h1
    have e1 := h i h3
    have e2 := gridDn_at d h3
    rw [getElem!_pos G i h1] at e1
    rw [getElem!_pos (gridDn n d) i h2] at e2
    rw [e1, e2]
theorem nxR_at {m : Mz} (ok : MzOk m) {x s kn : Nat} (hx : (x : Int) < m.size) (hs : s < 64) (hk : m.keys[x]! = (kn : Int)) : nxR m (x * 64 + s) = stpL m x (s ||| kn) 12 := by
  unfold nxR
  obtain ⟨e1, e2⟩ := cloS_fix ok (x * 64 + s)
  rw [show (x * 64 + s) / 64 = x by omega] at e1 e2
  rw [show (x * 64 + s) % 64 = s by omega, hk, Int.toNat_natCast] at e2
  unfold nxM
  rw [e1, e2, if_pos hx]
theorem id_at' (i : Nat) : ∃ x s, i = x * 64 + s ∧ s < 64 ∧ i / 64 = x ∧ i % 64 = s := ⟨i / 64, i % 64, by omega, Nat.mod_lt _ (by omega), rfl, rfl⟩
theorem trD_stay {d : Nat → Int} {n i : Nat} (h : d i ≠ (n : Int)) : trD d (n + 1) i = trD d n i := by
  unfold trD
  by_cases e : d i < (n : Int)
  · rw [if_pos e, if_pos (by omega)]
  · rw [if_neg e, if_neg (by omega)]
theorem trD_is {d : Nat → Int} {n i : Nat} (h : d i = (n : Int)) : trD d (n + 1) i = (n : Int) := by
  unfold trD; rw [if_pos (by omega), h]
end Go.KD
namespace Go.Proofs.Ytldogbahbjompaa
open Go.RowKit Go.KD
attribute [local go_sem] later_cell later_frozen
set_option maxRecDepth 100000 in
set_option maxHeartbeats 4000000 in
theorem l4Step_c (v : Value) (m : Mz) (x s : Nat) (w : World) (hm : MzAt w v m) (ok : MzOk m) (hx : (x : Int) < m.size) (hs : s < 64) :
    Calls Try.prog 91 #[v, .int .i64 x, .int .i64 s] w fun e w' => ∃ u, e = .returned u ∧ w'.ownsRow w.heap.size 3 1 u (stpL m x s 12).length (ints (natsI (stpL m x s 12))) ∧ Below w.heap.size w w' := by
  have hM := hm
  obtain ⟨⟨ad, cd, ak, ck, rfl, hd, hk'⟩, nd, nk⟩ := hM
  obtain ⟨i0, ji, jz0, jz1, jz2⟩ := info_parts infoI
  have hsz1 : 1 ≤ m.size := ok.s1
  have hsz2 : m.size ≤ 12 := ok.s2
  have hnk := ok.nk
  have OK := Lib.hid ok
  have HM := Lib.hid hm
  have HK := Lib.hid hk'
  have HE0 : Hid (((w.alloc (.cells #[.int .i64 m.size, .slice ad m.doors.length cd, .slice ak m.keys.length ck] 29)).alloc (.cells #[] 3)).ownsRow (w.heap.size + 1) 3 1 (.slice (some ⟨w.heap.size + 1, 0, none⟩) 0 0) (stpL m x s 0).length (ints (natsI (stpL m x s 0)))) := by
    have h := World.ownsRow_lit (base := w.heap.size + 1) (e := 3) (size := 1) (w.alloc (.cells #[.int .i64 m.size, .slice ad m.doors.length cd, .slice ak m.keys.length ck] 29)) #[] 0 (by simp) (by unfold maxLen; omega) rfl
    rw [World.size_alloc] at h
    exact h
  clear hm ok hd hk'
  go_enter Try.func91, Try.ntmps91
  go_wp2
  go_loopw [7, 8] (fun ov yv wr => ∃ k : Nat, yv = .int .i64 k ∧ (k : Int) ≤ m.size ∧ Hid (wr.ownsRow (w.heap.size + 1) 3 1 ov (stpL m x s k).length (ints (natsI (stpL m x s k)))) ∧ Hid (Below (w.heap.size + 1) (w.alloc (.cells #[.int .i64 m.size, .slice ad m.doors.length cd, .slice ak m.keys.length ck] 29)) wr)) (fun _ yv _ => (m.size - intOf yv).toNat)
  case atStart => exact ⟨0, rfl, by omega, HE0, (Below.refl _ _).alloc (by simp) _⟩
  case round =>
    clear HE0
    obtain ⟨wo, rfl⟩ : ∃ wo : World, wo = wr := ⟨_, rfl⟩
    obtain ⟨k, rfl, hk, HO, HBo⟩ := hrel
    have HB : Hid (Below w.heap.size w wo) := below_box HBo.out (by omega)
    obtain ⟨q0, q1, q2, z1⟩ := box3 HBo.out (by omega)
    obtain ⟨aO, cO, rfl⟩ := own_slice HO.out
    have hll := stpL_len m x s k
    by_cases hlt : (k : Int) < m.size
    · have hk12 : k < 12 := by omega
      obtain ⟨bk, offk, kx, rfl, HKX, hbsk, ek⟩ := (HK.out.later HB.out).at k (by omega)
      have hkx := key_facts OK.out (k := k) (by omega)
      rw [HKX.out] at hkx
      obtain ⟨kn, rfl⟩ := Int.eq_ofNat_of_zero_le hkx.1
      have hkn : kn < 64 := by omega
      obtain ⟨t, ht⟩ : ∃ t, t = s ||| kn := ⟨_, rfl⟩
      have ht64 : t < 64 := by rw [ht]; exact Nat.or_lt_two_pow (n := 6) hs hkn
      have eo : bits .or .i64 (s : Int) (kn : Int) = (t : Int) := by rw [ht]; exact i64_or s kn (by omega) (by omega)
      have HST : Hid (Go.KD.stM m s k = k * 64 + t) := by show _ = _; unfold Go.KD.stM; rw [HKX.out, Int.toNat_natCast, ht]
      have hbit := stN_bit OK.out (x : Int) s k
      clear ht hkx
      cases p : opnB m (x : Int) (k : Int) s
      · rw [p] at hbit
        have HN : Hid (stpL m x s (k + 1) = stpL m x s k) := stpL_no hbit
        clear hbit
        go_wp2_with fail
        refine (l2Open_c _ m (x : Int) (k : Int) s _ (HM.out.later HB.out) OK.out hs).mono ?_
        rintro e w4 ⟨rfl, hb4⟩
        rw [p]
        have HB4 : Hid (Below (w.heap.size + 1) (w.alloc (.cells #[.int .i64 m.size, .slice ad m.doors.length cd, .slice (some ⟨bk, offk, none⟩) m.keys.length ck] 29)) w4) := HBo.out.trans (hb4.mono (by omega))
        have HO4 : Hid (w4.ownsRow (w.heap.size + 1) 3 1 (.slice aO (stpL m x s k).length cO) (stpL m x s k).length (ints (natsI (stpL m x s k)))) := own_below HO.out hb4
        clear hb4 q0 q1 q2 ek p
        go_wp2_with fail
        go_roundw
        case rel => exact ⟨k + 1, by go_num, by omega, by rw [HN.out]; exact HO4, HB4⟩
        case measure => simp [intOf]; omega
      · rw [p] at hbit
        have HN : Hid (stpL m x s (k + 1) = stpL m x s k ++ [k * 64 + t]) := by show _ = _; rw [stpL_yes hbit, HST.out]
        clear hbit
        go_wp2_with fail
        refine (l2Open_c _ m (x : Int) (k : Int) s _ (HM.out.later HB.out) OK.out hs).mono ?_
        rintro e w4 ⟨rfl, hb4⟩
        rw [p]
        have HB4 : Hid (Below (w.heap.size + 1) (w.alloc (.cells #[.int .i64 m.size, .slice ad m.doors.length cd, .slice (some ⟨bk, offk, none⟩) m.keys.length ck] 29)) w4) := HBo.out.trans (hb4.mono (by omega))
        have HO4 : Hid (w4.ownsRow (w.heap.size + 1) 3 1 (.slice aO (stpL m x s k).length cO) (stpL m x s k).length (ints (natsI (stpL m x s k)))) := own_below HO.out hb4
        have hz4 := hb4.size
        replace ek := (hb4.cell (p := ⟨bk, offk + k, none⟩) hbsk).trans ek
        clear hb4 q0 q1 q2 p
        obtain ⟨q0, q1, q2, z4⟩ := box3 HB4.out (by omega)
        go_wp2_with (first | (go_at_call 59; refine (l4Id_c k t (k * 64 + t) rfl (by omega) (by omega) _).mono ?_; rintro e w5 ⟨rfl, rfl⟩) | (at_builtin; refine wpList_append_own _ rfl _ _ 23 rfl (w.heap.size + 1) 3 i0 (.int .i64 0) 1 8 Try.underlying23 ji jz0 jz1 jz2 rfl (by decide) _ _ _ rfl (HO4.out.alloc _) ⟨w4.heap.size, 0, none⟩ 1 1 [.int .i64 ((k * 64 + t : Nat) : Int)] rfl rfl ?_ ?_ ?_ ?_ ?_ ?_; (exact cell_one_new _ _ _); (simp [Value.oneCell']); (unfold maxLen; omega); omega; (simp; omega); intro v' w3 hown' hgrow _))
        go_roundw
        case rel => exact ⟨k + 1, by go_num, by omega, by rw [HN.out, natsI_snoc, ints_snoc, List.length_append]; exact hown', (HB4.out.alloc (by omega) _).grown hgrow (by simp; omega) (fun g hg => own_block_lo HO4.out hg)⟩
        case measure => simp [intOf]; omega
    · have hdk : decide ((k : Int) < m.size) = false := decide_eq_false hlt
      have HE : Hid (stpL m x s k = stpL m x s 12) := stpL_12 OK.out x s (by omega) (by omega)
      have HOF : Hid (wo.ownsRow w.heap.size 3 1 (.slice aO (stpL m x s k).length cO) (stpL m x s 12).length (ints (natsI (stpL m x s 12)))) := by
        rw [← HE.out]
        exact (Own.mono (Own.of HO.out) (by omega) (Nat.le_refl _)).row
      go_wp2
      go_ret
      exact ⟨_, rfl, HOF.out, HB.out⟩
set_option maxRecDepth 100000 in
set_option maxHeartbeats 16000000 in
theorem l4Remain_c (v : Value) (m : Mz) (n : Nat) (w : World) (hm : MzAt w v m) (ok : MzOk m) (hn : m.size * 64 = (n : Int)) :
    Calls Try.prog 90 #[v] w fun e w' => ∃ a c, e = .returned (.slice (some ⟨a, 0, none⟩) n c) ∧ IC w' (some ⟨a, 0, none⟩) (gridDn n (dR m)) ∧ Below w.heap.size w w' := by
  have hM := hm
  obtain ⟨⟨ad, cd, ak, ck, rfl, hd, hk'⟩, nd, nk⟩ := hM
  obtain ⟨i0, ji, jz0, jz1, jz2⟩ := info_parts infoI
  have hsz1 : 1 ≤ m.size := ok.s1
  have hsz2 : m.size ≤ 12 := ok.s2
  have hnk := ok.nk
  have hn768 : n ≤ 768 := by omega
  have hn64 : 64 ≤ n := by omega
  obtain ⟨d, hd0⟩ : ∃ d, d = dR m := ⟨_, rfl⟩
  have HDO : Hid (DOk (nxR m) (goalT m) d) := by rw [hd0]; exact dR_ok m
  rw [← hd0]
  have HIN : Hid (∀ i, i < n → ∀ j ∈ nxR m i, j < n) := fun i hi j hj => by have := nxR_lt ok hj; omega
  have HSN : Hid (∀ i : Nat, i < n → ((i / 64 : Nat) : Int) < m.size) := fun i hi => by omega
  have HGT : Hid (∀ i : Nat, goalT m i = decide (((i / 64 : Nat) : Int) = m.size - 1)) := fun i => rfl
  have hw1 : IntKind.i64.wrap (m.size * 64) = (n : Int) := by rw [IntKind.wrap_i64]; omega
  have hmk : ∀ W : World, (Instr.makeSlice 23 (.int .i64 n) (.int .i64 n)).run Try.prog W = .ok (.slice (some ⟨W.heap.size, 0, none⟩) n n) (W.alloc (.cells (madeCells #[.int .i64 0] n) 3)) := fun W => run_make_row' 23 3 (.int .i64 0) 8 Try.underlying23 infoI rfl .i64 .i64 n (by omega) (by omega) W
  have HR0 : Hid (World.ownsRow ((w.alloc (.cells #[.int .i64 m.size, .slice ad m.doors.length cd, .slice ak m.keys.length ck] 29)).alloc (.cells (madeCells #[.int .i64 0] n) 3)) (w.heap.size + 1) 3 1 (.slice (some ⟨w.heap.size + 1, 0, none⟩) n n) n (ints (List.replicate n 0))) :=
    own_madeW (w.alloc (.cells #[.int .i64 m.size, .slice ad m.doors.length cd, .slice ak m.keys.length ck] 29)) (by simp) (by simp) (by unfold maxLen; omega) (madeI n)
  have HBB0 : Hid (Below (w.heap.size + 1) (w.alloc (.cells #[.int .i64 m.size, .slice ad m.doors.length cd, .slice ak m.keys.length ck] 29)) ((w.alloc (.cells #[.int .i64 m.size, .slice ad m.doors.length cd, .slice ak m.keys.length ck] 29)).alloc (.cells (madeCells #[.int .i64 0] n) 3))) := (Below.refl _ _).alloc (by simp) _
  have hsn : m.size * 64 = (n : Int) := hn
  have OK := Lib.hid ok
  have HM := Lib.hid hm
  have HK := Lib.hid hk'
  clear hd0 hn hm ok hd hk'
  go_enter Try.func90, Try.ntmps90
  go_wp2
  go_loopw [4] (fun iv wr => ∃ (k : Nat) (T : List Int), iv = .int .i64 k ∧ k ≤ n ∧ Hid (T.length = n ∧ ∀ i, i < k → T[i]! = if goalT m i = true then 0 else -1) ∧ Hid (World.ownsRow wr (w.heap.size + 1) 3 1 (.slice (some ⟨w.heap.size + 1, 0, none⟩) n n) n (ints T)) ∧ Hid (Below (w.heap.size + 1) (w.alloc (.cells #[.int .i64 m.size, .slice ad m.doors.length cd, .slice ak m.keys.length ck] 29)) wr)) (fun iv _ => n - (intOf iv).toNat)
  case atStart => exact ⟨0, List.replicate n 0, rfl, Nat.zero_le _, ⟨by simp, fun i hi => absurd hi (Nat.not_lt_zero i)⟩, HR0, HBB0⟩
  case round =>
    clear HR0 HBB0
    obtain ⟨wo, rfl⟩ : ∃ wo : World, wo = wr := ⟨_, rfl⟩
    obtain ⟨k, T, rfl, hk, HT, HR, HB⟩ := hrel
    obtain ⟨q0, q1, q2, z1⟩ := box3 HB.out (by omega)
    by_cases hlt : k < n
    · have hkI : (k : Int) < (n : Int) := by omega
      have c0 := own_intW HR.out k hlt HT.out.1
      have f0 := (own_cell HR.out k (by omega)).2
      obtain ⟨ho3, hg3⟩ := own_store1 HR.out k (-1)
      have c3 := own_intW ho3 k hlt (by rw [List.length_set]; exact HT.out.1)
      have f3 := (own_cell ho3 k (by omega)).2
      obtain ⟨ho4, hg4⟩ := own_store1 ho3 k 0
      have HO3 := Lib.hid ho3
      have HO4 := Lib.hid ho4
      have HB3 : Hid (Below (w.heap.size + 1) (w.alloc (.cells #[.int .i64 m.size, .slice ad m.doors.length cd, .slice ak m.keys.length ck] 29)) (wo.setCell ⟨w.heap.size + 1, k, none⟩ (.int .i64 (-1)))) := Below.setCell HB.out (Nat.le_refl _) _
      have HB4 : Hid (Below (w.heap.size + 1) (w.alloc (.cells #[.int .i64 m.size, .slice ad m.doors.length cd, .slice ak m.keys.length ck] 29)) ((wo.setCell ⟨w.heap.size + 1, k, none⟩ (.int .i64 (-1))).setCell ⟨w.heap.size + 1, k, none⟩ (.int .i64 0))) := Below.setCell HB3.out (Nat.le_refl _) _
      obtain ⟨x, l, hxl, hl, hx, hl2⟩ := id_at' k
      have hkq : (k : Int) / 64 = (x : Int) := by omega
      have hkq2 : Int.tdiv (k : Int) 64 = (x : Int) := by rw [Int.tdiv_eq_ediv_of_nonneg (by omega)]; exact hkq
      have HX := Lib.hid hx
      have hz1 : w.heap.size + 1 < wo.heap.size := own_lt HR.out
      clear ho3 hg3 ho4 hg4 hx hl2 hxl
      cases hg : ((x : Int) == m.size - 1)
      · have HN : Hid ((T.set k (-1)).length = n ∧ ∀ i, i < k + 1 → (T.set k (-1))[i]! = if goalT m i = true then 0 else -1) := by
          refine ⟨by rw [List.length_set]; exact HT.out.1, fun i hi => ?_⟩
          rw [set_at (by rw [HT.out.1]; exact hlt)]
          split
          · rename_i e; subst e
            rw [HGT.out, HX.out, if_neg (by rw [decide_eq_true_iff]; simpa using hg)]
          · exact HT.out.2 i (by omega)
        go_wp2
        go_roundw
        case rel => exact ⟨k + 1, T.set k (-1), by go_num, by omega, HN, HO3, HB3⟩
        case measure => simp [intOf]; omega
      · have HN : Hid (((T.set k (-1)).set k 0).length = n ∧ ∀ i, i < k + 1 → ((T.set k (-1)).set k 0)[i]! = if goalT m i = true then 0 else -1) := by
          refine ⟨by rw [List.length_set, List.length_set]; exact HT.out.1, fun i hi => ?_⟩
          rw [set_at (by rw [List.length_set, HT.out.1]; exact hlt)]
          split
          · rename_i e; subst e
            rw [HGT.out, HX.out, if_pos (by rw [decide_eq_true_iff]; simpa using hg)]
          · rename_i e
            rw [set_at (by rw [HT.out.1]; exact hlt), if_neg e]
            exact HT.out.2 i (by omega)
        go_wp2
        go_roundw
        case rel => exact ⟨k + 1, (T.set k (-1)).set k 0, by go_num, by omega, HN, HO4, HB4⟩
        case measure => simp [intOf]; omega
    · obtain rfl : n = k := by omega
      clear hlt q0 q1 q2
      have HT1 : Hid (T.length = n ∧ ∀ q, q < n → T[q]! = trD d 1 q) := ⟨HT.out.1, fun q hq => by
        rw [HT.out.2 q hq]
        have h1 := HDO.out.zero q
        have h2 := HDO.out.lo q
        unfold trD
        by_cases e : goalT m q = true
        · rw [if_pos e]
          have := h1.2 e
          rw [if_pos (by omega), this]
        · rw [if_neg e]
          have : ¬ d q = 0 := fun h => e (h1.1 h)
          by_cases e2 : d q < ((1 : Nat) : Int)
          · rw [if_pos e2]; omega
          · rw [if_neg e2]⟩
      have HC1 : Hid (1 ≤ cntD d 1 n) := by
        obtain ⟨g, hg⟩ := Int.eq_ofNat_of_zero_le (show 0 ≤ m.size - 1 by omega)
        have h0 : d (g * 64) = 0 := (HDO.out.zero _).2 (by rw [HGT.out, decide_eq_true_iff]; omega)
        have := cntD_more (d := d) (n := 0) (N := n) (i := g * 64) (by omega) h0
        show 1 ≤ cntD d (0 + 1) n
        omega
      clear HT
      go_wp2
      go_loopw [5] (fun sv wr => ∃ (s : Nat) (T : List Int), sv = .int .i64 s ∧ 1 ≤ s ∧ s ≤ n ∧ Hid (T.length = n ∧ ∀ q, q < n → T[q]! = trD d s q) ∧ Hid (s ≤ cntD d s n) ∧ Hid (World.ownsRow wr (w.heap.size + 1) 3 1 (.slice (some ⟨w.heap.size + 1, 0, none⟩) n n) n (ints T)) ∧ Hid (Below (w.heap.size + 1) (w.alloc (.cells #[.int .i64 m.size, .slice ad m.doors.length cd, .slice ak m.keys.length ck] 29)) wr)) (fun sv _ => n - (intOf sv).toNat)
      case atStart => exact ⟨1, T, rfl, Nat.le_refl _, by omega, HT1, HC1, HR, HB⟩
      case round =>
        clear HT1 HC1 HR HB hk
        obtain ⟨ws, rfl⟩ : ∃ ws : World, ws = wr := ⟨_, rfl⟩
        obtain ⟨s, T, rfl, hs1, hsn2, HT, HC, HR, HB⟩ := hrel
        by_cases hlt : s < n
        · have hsI : (s : Int) < (n : Int) := by omega
          have HTS : Hid (T.length = n ∧ ∀ q, q < n → T[q]! = if q < 0 then trD d (s + 1) q else trD d s q) := ⟨HT.out.1, fun q hq => by rw [if_neg (Nat.not_lt_zero q)]; exact HT.out.2 q hq⟩
          go_wp2
          go_loopw [6, 7] (fun cv iv wr => ∃ (i : Nat) (c : Bool) (T : List Int), iv = .int .i64 i ∧ i ≤ n ∧ cv = .bool c ∧ Hid (T.length = n ∧ ∀ q, q < n → T[q]! = if q < i then trD d (s + 1) q else trD d s q) ∧ Hid (c = true ↔ ∃ q, q < i ∧ d q = (s : Int)) ∧ Hid (World.ownsRow wr (w.heap.size + 1) 3 1 (.slice (some ⟨w.heap.size + 1, 0, none⟩) n n) n (ints T)) ∧ Hid (Below (w.heap.size + 1) (w.alloc (.cells #[.int .i64 m.size, .slice ad m.doors.length cd, .slice ak m.keys.length ck] 29)) wr)) (fun _ iv _ => n - (intOf iv).toNat)
          case atStart => exact ⟨0, false, T, rfl, Nat.zero_le _, rfl, HTS, ⟨fun h => (by cases h), fun ⟨q, hq, _⟩ => absurd hq (Nat.not_lt_zero q)⟩, HR, HB⟩
          case round =>
            clear HTS HT HR HB
            obtain ⟨wi, rfl⟩ : ∃ wi : World, wi = wr := ⟨_, rfl⟩
            obtain ⟨i, c, T, rfl, hi, rfl, HT, HCH, HR, HB⟩ := hrel
            have HBw : Hid (Below w.heap.size w wi) := below_box HB.out (by omega)
            by_cases hlt2 : i < n
            · have hiI : (i : Int) < (n : Int) := by omega
              obtain ⟨x, l, hxl, hl64, hx, hl⟩ := id_at' i
              have hxs := HSN.out i hlt2
              rw [hx] at hxs
              obtain ⟨bk, offk, kx, hak, HKX, hbsk, ek⟩ := (HK.out.later HBw.out).at x (by omega)
              subst hak
              have hkx := key_facts OK.out (k := x) (by omega)
              rw [HKX.out] at hkx
              obtain ⟨kn, rfl⟩ := Int.eq_ofNat_of_zero_le hkx.1
              have hkn : kn < 64 := by omega
              obtain ⟨t, ht⟩ : ∃ t, t = l ||| kn := ⟨_, rfl⟩
              have ht64 : t < 64 := by rw [ht]; exact Nat.or_lt_two_pow (n := 6) hl64 hkn
              have eo : bits .or .i64 (l : Int) (kn : Int) = (t : Int) := by rw [ht]; exact i64_or l kn (by omega) (by omega)
              obtain ⟨N, hN⟩ : ∃ N, N = stpL m x t 12 := ⟨_, rfl⟩
              have HNX : Hid (nxR m i = N) := by show _ = _; rw [hN, hxl, nxR_at OK.out hxs hl64 HKX.out, ht]
              have hNl : N.length ≤ 12 := by rw [hN]; exact stpL_len _ _ _ _
              have HSTEP : Hid (∀ Wl, Below w.heap.size w Wl → Calls Try.prog 91 #[.agg #[.int .i64 m.size, .slice ad m.doors.length cd, .slice (some ⟨bk, offk, none⟩) m.keys.length ck], .int .i64 (x : Int), .int .i64 (t : Int)] Wl fun e w' => ∃ u, e = .returned u ∧ w'.ownsRow Wl.heap.size 3 1 u N.length (ints (natsI N)) ∧ Below Wl.heap.size Wl w') := by
                rw [hN]
                exact fun Wl hW => l4Step_c _ m x t Wl (HM.out.later hW) OK.out hxs ht64
              have hq1 : (i : Int) / 64 = (x : Int) := by omega
              have hq2 : (i : Int) % 64 = (l : Int) := by omega
              have hq3 : Int.tdiv (i : Int) 64 = (x : Int) := by rw [Int.tdiv_eq_ediv_of_nonneg (by omega)]; exact hq1
              have hq4 : Int.tmod (i : Int) 64 = (l : Int) := by rw [Int.tmod_eq_emod_of_nonneg (by omega)]; exact hq2
              have hxI : (x : Int) < 12 := by omega
              have hx00 : (0 : Int) ≤ (x : Int) := by omega
              have hq7 : IntKind.i64.wrap (x : Int) = (x : Int) := by rw [IntKind.wrap_i64]; omega
              have hq5 : IntKind.i64.wrap (Int.tdiv (i : Int) 64) = (x : Int) := by rw [hq3, hq7]
              have hq6 : IntKind.i64.wrap ((i : Int) / 64) = (x : Int) := by rw [hq1, hq7]
              have hxk : (x : Int) < (m.keys.length : Int) := by omega
              obtain ⟨q0, q1, q2, z1⟩ := box3 HB.out (by omega)
              clear hN ht hkx hx hl hxl
              go_upto_region 15 with fail
              go_region_held3 (fun W => W.cell? ⟨w.heap.size, 0, none⟩ = some (.int .i64 m.size) ∧ W.cell? ⟨w.heap.size, 1, none⟩ = some (.slice ad m.doors.length cd) ∧ W.cell? ⟨w.heap.size, 2, none⟩ = some (.slice (some ⟨bk, offk, none⟩) m.keys.length ck) ∧ W.cell? ⟨bk, offk + x, none⟩ = some (.int .i64 (kn : Int)))
                (first | exact ⟨q0, q1, q2, ek⟩ | exact ⟨r0, r1, r2, rk⟩)
                (first | (go_at_call 91; refine (HSTEP.out _ (HBw.out.drew)).mono ?_; rintro e w4 ⟨u4, rfl, ho4, hb4⟩; obtain ⟨a4, c4, rfl⟩ := own_slice ho4; have HX4 : Hid (Below wi.heap.size wi w4) := (Below.refl _ _).drew.trans hb4; have HO4 : Hid (Own wi.heap.size w4.heap.size w4 3 1 (.slice a4 N.length c4) N.length (ints (natsI N))) := Own.of ho4; have r0 := (hb4.cell (p := ⟨w.heap.size, 0, none⟩) z1).trans q0; have r1 := (hb4.cell (p := ⟨w.heap.size, 1, none⟩) z1).trans q1; have r2 := (hb4.cell (p := ⟨w.heap.size, 2, none⟩) z1).trans q2; have rk := (hb4.cell (p := ⟨bk, offk + x, none⟩) hbsk).trans ek))
              have hz4 : wi.heap.size ≤ w4.heap.size := HX4.out.size
              have HR4 : Hid (World.ownsRow w4 (w.heap.size + 1) 3 1 (.slice (some ⟨w.heap.size + 1, 0, none⟩) n n) n (ints T)) := own_below HR.out HX4.out
              have HB4 : Hid (Below (w.heap.size + 1) (w.alloc (.cells #[.int .i64 m.size, .slice ad m.doors.length cd, .slice (some ⟨bk, offk, none⟩) m.keys.length ck] 29)) w4) := HB.out.trans (HX4.out.mono (by omega))
              have hzg : w.heap.size + 1 < wi.heap.size := own_lt HR.out
              have HTI : Hid (T[i]! = trD d s i) := by show _ = _; rw [HT.out.2 i hlt2, if_neg (Nat.lt_irrefl i)]
              have HFN : Hid (d i ≠ (s : Int) → (T.length = n ∧ ∀ q, q < n → T[q]! = if q < i + 1 then trD d (s + 1) q else trD d s q) ∧ (c = true ↔ ∃ q, q < i + 1 ∧ d q = (s : Int))) := by
                intro hne
                refine ⟨⟨HT.out.1, fun q hq => ?_⟩, HCH.out.trans ⟨fun ⟨q, h1, h2⟩ => ⟨q, by omega, h2⟩, fun ⟨q, h1, h2⟩ => ⟨q, ?_, h2⟩⟩⟩
                · rw [HT.out.2 q hq]
                  by_cases e : q = i
                  · subst e
                    rw [if_neg (Nat.lt_irrefl q), if_pos (by omega), trD_stay hne]
                  · by_cases e2 : q < i
                    · rw [if_pos e2, if_pos (by omega)]
                    · rw [if_neg e2, if_neg (by omega)]
                · rcases Nat.lt_or_ge q i with h3 | h3
                  · exact h3
                  · obtain rfl : q = i := by omega
                    exact absurd h2 hne
              have HTN : Hid (d i = (s : Int) → ((T.set i (s : Int)).length = n ∧ ∀ q, q < n → (T.set i (s : Int))[q]! = if q < i + 1 then trD d (s + 1) q else trD d s q) ∧ (true = true ↔ ∃ q, q < i + 1 ∧ d q = (s : Int))) := by
                intro he
                refine ⟨⟨by rw [List.length_set]; exact HT.out.1, fun q hq => ?_⟩, ⟨fun _ => ⟨i, by omega, he⟩, fun _ => rfl⟩⟩
                rw [set_at (by rw [HT.out.1]; exact hlt2)]
                by_cases e : q = i
                · subst e
                  rw [if_pos rfl, if_pos (by omega), trD_is he]
                · rw [if_neg e, HT.out.2 q hq]
                  by_cases e2 : q < i
                  · rw [if_pos e2, if_pos (by omega)]
                  · rw [if_neg e2, if_neg (by omega)]
              have HSET : Hid ((T.set i (s : Int)).length = n ∧ (T.set i (s : Int))[i]! = (s : Int)) := ⟨by rw [List.length_set]; exact HT.out.1, by rw [set_at (by rw [HT.out.1]; exact hlt2), if_pos rfl]⟩
              have HNXT : Hid (∀ k, k < N.length → N[k]! < n ∧ N[k]! ∈ nxR m i ∧ (T[N[k]!]! = (s : Int) - 1 ↔ d N[k]! = (s : Int) - 1)) := by
                intro k hk
                have hmem : N[k]! ∈ nxR m i := by rw [HNX.out, getElem!_pos N k hk]; exact List.getElem_mem hk
                have hj := HIN.out i hlt2 _ hmem
                refine ⟨hj, hmem, ?_⟩
                rw [HT.out.2 _ hj]
                split
                · exact trD_at' hs1
                · exact trD_at hs1
              obtain ⟨tv, htv⟩ : ∃ tv, tv = trD d s i := ⟨_, rfl⟩
              have HTV := Lib.hid htv
              rw [← htv] at HTI
              clear htv hq1 hq2 hq3 hq4 hq5 hq6 hq7 q0 q1 q2 r0 r1 r2 rk ek ho4 hb4 HT HR HB HCH
              go_wp2
              go_loopw [6, 9] (fun cv kv wr => ∃ (k : Nat) (c' f : Bool) (T' : List Int), kv = .int .i64 k ∧ k ≤ N.length ∧ cv = .bool c' ∧ Hid (f = false → T' = T ∧ c' = c ∧ ∀ q, q < k → ¬ d N[q]! = (s : Int) - 1) ∧ Hid (f = true → T' = T.set i (s : Int) ∧ c' = true ∧ d i = (s : Int)) ∧ Hid (World.ownsRow wr (w.heap.size + 1) 3 1 (.slice (some ⟨w.heap.size + 1, 0, none⟩) n n) n (ints T')) ∧ Hid (Below (w.heap.size + 1) (w.alloc (.cells #[.int .i64 m.size, .slice ad m.doors.length cd, .slice (some ⟨bk, offk, none⟩) m.keys.length ck] 29)) wr) ∧ w4.heap.size ≤ wr.heap.size ∧ Hid (Own wi.heap.size w4.heap.size wr 3 1 (.slice a4 N.length c4) N.length (ints (natsI N)))) (fun _ kv _ => N.length - (intOf kv).toNat)
              case atStart => exact ⟨0, c, false, T, rfl, Nat.zero_le _, rfl, (fun _ => ⟨rfl, rfl, fun q hq => absurd hq (Nat.not_lt_zero q)⟩), (fun h => absurd h (by decide)), HR4, HB4, Nat.le_refl _, HO4⟩
              case round =>
                clear HR4 HB4 HO4
                obtain ⟨wk, rfl⟩ : ∃ wk : World, wk = wr := ⟨_, rfl⟩
                obtain ⟨k, c', f, T', rfl, hk, rfl, HF, HTT, HR, HB, hzk, HO⟩ := hrel
                cases f
                · obtain ⟨hT, hc, hno⟩ := HF.out rfl
                  subst hT hc
                  have HNO := Lib.hid hno
                  have ei := own_intW HR.out i hlt2 (by have := HSET.out.1; rw [List.length_set] at this; exact this)
                  have fi := (own_cell HR.out i (by omega)).2
                  rw [HTI.out] at ei
                  clear hno HF HTT
                  by_cases hlt3 : k < N.length
                  · have hkI : (k : Int) < (N.length : Int) := by omega
                    by_cases htn : tv < 0
                    · have hdt : decide (tv < 0) = true := decide_eq_true htn
                      obtain ⟨hjn, hjm, hjd⟩ := HNXT.out k hlt3
                      obtain ⟨b8, off8, av, ha8, HX, hbs8, e8⟩ := (ic_of' HO.out (natsI_len N).symm).at k (by rw [natsI_len]; exact hlt3)
                      subst ha8
                      have hav := HX.out
                      rw [natsI_at hlt3] at hav
                      obtain ⟨j, hj⟩ : ∃ j, j = N[k]! := ⟨_, rfl⟩
                      rw [← hj] at hjn hjm hjd hav
                      subst hav
                      have ej := own_intW HR.out j hjn (by have := HSET.out.1; rw [List.length_set] at this; exact this)
                      obtain ⟨ov, hov⟩ : ∃ ov, ov = T'[j]! := ⟨_, rfl⟩
                      rw [← hov] at ej hjd
                      have hjI : (j : Int) < (n : Int) := by omega
                      have HJ := Lib.hid hj
                      have HJM := Lib.hid hjm
                      have HJD := Lib.hid hjd
                      clear hj hjm hjd hov
                      by_cases hos : ov = (s : Int) - 1
                      · have hbb : (ov == (s : Int) - 1) = true := by rw [hos]; simp
                        have HDI : Hid (d i = (s : Int)) := (HDO.out.is_next hs1 (by rw [← HTV.out]; exact htn)).2 ⟨j, HJM.out, HJD.out.1 hos⟩
                        obtain ⟨ho3, hg3⟩ := own_store1 HR.out i (s : Int)
                        have HR3 := Lib.hid ho3
                        have HB3 : Hid (Below (w.heap.size + 1) (w.alloc (.cells #[.int .i64 m.size, .slice ad m.doors.length cd, .slice (some ⟨bk, offk, none⟩) m.keys.length ck] 29)) (wk.setCell ⟨w.heap.size + 1, i, none⟩ (.int .i64 (s : Int)))) := Below.setCell HB.out (Nat.le_refl _) _
                        have HO3 : Hid (Own wi.heap.size w4.heap.size (wk.setCell ⟨w.heap.size + 1, i, none⟩ (.int .i64 (s : Int))) 3 1 (.slice (some ⟨b8, off8, none⟩) N.length c4) N.length (ints (natsI N))) := HO.out.setCell (.inl (by show w.heap.size + 1 < _; omega)) _
                        clear ho3 hg3 hos
                        go_wp2
                        go_roundw
                        case rel => exact ⟨k + 1, true, true, _, by go_num, by omega, rfl, (fun h => absurd h (by decide)), (fun _ => ⟨rfl, rfl, HDI.out⟩), HR3, HB3, (by simp only [World.size_setCell]; omega), HO3⟩
                        case measure => simp [intOf]; omega
                      · have hbb : (ov == (s : Int) - 1) = false := by simpa using hos
                        have HF2 : Hid (false = false → T' = T' ∧ c' = c' ∧ ∀ q, q < k + 1 → ¬ d N[q]! = (s : Int) - 1) := fun _ => ⟨rfl, rfl, fun q hq => by
                          rcases Nat.lt_or_ge q k with h | h
                          · exact HNO.out q h
                          · obtain rfl : q = k := by omega
                            rw [← HJ.out]; exact fun h2 => hos (HJD.out.2 h2)⟩
                        clear hos
                        go_wp2
                        go_roundw
                        case rel => exact ⟨k + 1, c', false, T', by go_num, by omega, rfl, HF2, (fun h => absurd h (by decide)), HR, HB, hzk, HO⟩
                        case measure => simp [intOf]; omega
                    · have hdt : decide (tv < 0) = false := decide_eq_false htn
                      have hne : d i ≠ (s : Int) := fun e => by
                        have := (trD_neg (n := s) (HDO.out.lo i)).2 (.inr (by omega))
                        rw [← HTV.out] at this; exact htn this
                      have HFX := Lib.hid (HFN.out hne)
                      clear hne
                      go_wp2
                      go_roundw
                      case rel => exact ⟨i + 1, c', T', by go_num, by omega, rfl, HFX.out.1, HFX.out.2, HR, HB⟩
                      case measure => simp [intOf]; omega
                  · obtain rfl : k = N.length := by omega
                    have hne : d i ≠ (s : Int) := fun e => by
                      by_cases htn : tv < 0
                      · obtain ⟨j, hjm, hjd⟩ := (HDO.out.is_next hs1 (by rw [← HTV.out]; exact htn)).1 e
                        rw [HNX.out] at hjm
                        obtain ⟨q, hq, hqe⟩ := List.mem_iff_getElem.1 hjm
                        exact HNO.out q hq (by rw [getElem!_pos N q hq, hqe]; exact hjd)
                      · have := (trD_neg (n := s) (HDO.out.lo i)).2 (.inr (by omega))
                        rw [← HTV.out] at this; exact htn this
                    have HFX := Lib.hid (HFN.out hne)
                    clear hne ei fi
                    go_wp2
                    go_roundw
                    case rel => exact ⟨i + 1, c', T', by go_num, by omega, rfl, HFX.out.1, HFX.out.2, HR, HB⟩
                    case measure => simp [intOf]; omega
                · obtain ⟨hT, hc, hdi⟩ := HTT.out rfl
                  subst hT hc
                  have HFX := Lib.hid (HTN.out hdi)
                  have ei := own_intW HR.out i hlt2 HSET.out.1
                  rw [HSET.out.2] at ei
                  have hdt : decide ((s : Int) < 0) = false := by simp
                  clear hdi HF HTT
                  by_cases hlt3 : k < N.length
                  · have hkI : (k : Int) < (N.length : Int) := by omega
                    go_wp2
                    go_roundw
                    case rel => exact ⟨i + 1, true, _, by go_num, by omega, rfl, HFX.out.1, ⟨fun _ => HFX.out.2.1 (by trivial), fun _ => rfl⟩, HR, HB⟩
                    case measure => simp [intOf]; omega
                  · obtain rfl : k = N.length := by omega
                    go_wp2
                    go_roundw
                    case rel => exact ⟨i + 1, true, _, by go_num, by omega, rfl, HFX.out.1, ⟨fun _ => HFX.out.2.1 (by trivial), fun _ => rfl⟩, HR, HB⟩
                    case measure => simp [intOf]; omega
            · obtain rfl : n = i := by omega
              have HTE : Hid (T.length = n ∧ ∀ q, q < n → T[q]! = trD d (s + 1) q) := ⟨HT.out.1, fun q hq => by rw [HT.out.2 q hq, if_pos hq]⟩
              cases c
              · have hno : ∀ q, q < n → d q ≠ (s : Int) := fun q hq e => by have := HCH.out.2 ⟨q, hq, e⟩; cases this
                have HF : Hid (T = gridDn n d) := by
                  refine gridDn_eq HTE.out.1 fun q hq => ?_
                  have := HDO.out.stop HIN.out hno q hq
                  rw [HTE.out.2 q hq]
                  unfold trD
                  rw [if_pos (by omega)]
                have HIF : Hid (IC wi (some ⟨w.heap.size + 1, 0, none⟩) (gridDn n d)) := by rw [← HF.out]; exact ic_of' (Own.of HR.out) HTE.out.1.symm
                clear hno
                go_wp2
                go_ret
                exact ⟨_, _, rfl, HIF.out, HBw.out⟩
              · have HC2 : Hid (s + 1 ≤ cntD d (s + 1) n) := by
                  obtain ⟨q, hq, e⟩ := HCH.out.1 rfl
                  have h1 := cntD_more (n := s) hq e
                  have h2 := HC.out
                  show _ ≤ _
                  omega
                go_wp2
                go_roundw
                case rel => exact ⟨s + 1, T, by go_num, by omega, by omega, HTE, HC2, HR, HB⟩
                case measure => simp [intOf]; omega
        · obtain rfl : n = s := by omega
          have HF : Hid (T = gridDn n d) := by
            refine gridDn_eq HT.out.1 fun q hq => ?_
            have := cntD_all HC.out q hq
            rw [HT.out.2 q hq]
            unfold trD at this ⊢
            split at this
            · rename_i h; rw [if_pos h]
            · omega
          have HIF : Hid (IC ws (some ⟨w.heap.size + 1, 0, none⟩) (gridDn n d)) := by rw [← HF.out]; exact ic_of' (Own.of HR.out) HT.out.1.symm
          have HBF : Hid (Below w.heap.size w ws) := below_box HB.out (by omega)
          go_wp2
          go_ret
          exact ⟨_, _, rfl, HIF.out, HBF.out⟩
end Go.Proofs.Ytldogbahbjompaa
