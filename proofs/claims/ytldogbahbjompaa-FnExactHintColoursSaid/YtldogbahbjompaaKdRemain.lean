/- impl.remain: the grid of the least numbers of steps to the goal. -/
import Derived.Test.YtldogbahbjompaaKdDistM
import Derived.Test.YtldogbahbjompaaKdVis
import Derived.Test.YtldogbahbjompaaKdSteps
import Derived.Test.YtldogbahbjompaaKdThose
set_option linter.unusedVariables false
set_option linter.unusedSimpArgs false
namespace Go.KD
open Go.RowKit
def betB (a b : Int) : Bool := decide (0 ≤ a) && (decide (b < 0) || decide (a < b))
def gridD (d : Nat → Int) : List Int := (List.range 768).map d
theorem gridD_len (d : Nat → Int) : (gridD d).length = 768 := by simp [gridD]
theorem gridD_at (d : Nat → Int) {i : Nat} (h : i < 768) : (gridD d)[i]! = d i := by rw [getElem!_pos _ i (by rw [gridD_len]; exact h)]; simp [gridD]
set_option maxRecDepth 20000 in
theorem gridD_eq {d : Nat → Int} {G : List Int} (hl : G.length = 768) (h : ∀ i : Nat, i < 768 → G[i]! = d i) : G = gridD d := by
  apply List.ext_getElem
  · rw [hl, gridD_len]
  · intro i h1 h2
    have h3 : i < 768 := hl ▸ h1
    have e1 := h i h3
    have e2 := gridD_at d (i := i) h3
    rw [getElem!_pos G i h1] at e1
    rw [getElem!_pos (gridD d) i h2] at e2
    rw [e1, e2]
theorem relx_bet {G : List Int} {i j : Nat} (h : 0 ≤ G[j]!) : betB (G[j]! + 1) G[i]! = !relxB G i j := by
  unfold betB relxB
  rw [decide_eq_true h, decide_eq_true (show 0 ≤ G[j]! + 1 by omega)]
  simp
/-- Nothing can be made better by steps from states below n. -/
def RlxB (m : Mz) (G : List Int) (n : Nat) : Prop := ∀ i, i < n → ∀ j ∈ nxM m i, relxB G i j = true
def RlxJ (m : Mz) (G : List Int) (i q : Nat) : Prop := ∀ p, p < q → relxB G i (nxM m i)[p]! = true
theorem RlxB.next {m : Mz} {G : List Int} {n q : Nat} (h : RlxB m G n) (hq : RlxJ m G n q) (hl : (nxM m n).length ≤ q) : RlxB m G (n + 1) := by
  intro i hi j hj
  rcases Nat.lt_or_ge i n with h1 | h1
  · exact h i h1 j hj
  · obtain rfl : i = n := by omega
    obtain ⟨p, hp, rfl⟩ := List.mem_iff_getElem.1 hj
    have := hq p (by omega)
    rwa [getElem!_pos _ p hp] at this
theorem RlxJ.next {m : Mz} {G : List Int} {i q : Nat} (h : RlxJ m G i q) (hq : relxB G i (nxM m i)[q]! = true) : RlxJ m G i (q + 1) := by
  intro p hp
  rcases Nat.lt_or_ge p q with h1 | h1
  · exact h p h1
  · obtain rfl : p = q := by omega
    exact hq
theorem nxM_at {m : Mz} {x s : Nat} (hx : (x : Int) < m.size) (hs : s < 64) : nxM m (x * 64 + s) = (stpN m x s 12).map (stM m s) := by
  unfold nxM
  rw [show (x * 64 + s) / 64 = x by omega, show (x * 64 + s) % 64 = s by omega, if_pos hx]; rfl
theorem stpN_len (m : Mz) (x s k : Nat) : (stpN m x s k).length ≤ k := Nat.le_trans (List.length_filter_le _ _) (by simp)
/-- The goal's first k states have 0, all others -1. -/
def gfK (gx k : Nat) : List Int := (List.range 768).map fun i => if i / 64 = gx ∧ i % 64 < k then 0 else -1
theorem gfK_len (gx k : Nat) : (gfK gx k).length = 768 := by simp [gfK]
theorem gfK_at (gx k : Nat) {i : Nat} (h : i < 768) : (gfK gx k)[i]! = if i / 64 = gx ∧ i % 64 < k then 0 else -1 := by rw [getElem!_pos _ i (by rw [gfK_len]; exact h)]; simp [gfK]
theorem gfK_next {gx k : Nat} (hg : gx < 12) (hk : k < 64) : (gfK gx k).set (gx * 64 + k) 0 = gfK gx (k + 1) := by
  apply List.ext_getElem
  · rw [List.length_set, gfK_len, gfK_len]
  · intro i h1 h2
    rw [gfK_len] at h2
    have e1 := gfK_at gx k h2
    have e2 := gfK_at gx (k + 1) h2
    rw [getElem!_pos _ i (by rw [gfK_len]; exact h2)] at e1 e2
    rw [List.getElem_set, e1, e2]
    by_cases e : gx * 64 + k = i
    · rw [if_pos e, if_pos (by omega)]
    · rw [if_neg e]
      by_cases e3 : i / 64 = gx ∧ i % 64 < k
      · rw [if_pos e3, if_pos (by omega)]
      · rw [if_neg e3, if_neg (by omega)]
set_option maxRecDepth 20000 in
theorem gfK_0 (gx : Nat) : gfK gx 0 = gridL [] := by
  apply List.ext_getElem
  · rw [gfK_len, gridL_len]
  · intro i h1 h2
    have h3 : i < 768 := gfK_len gx 0 ▸ h1
    have e1 := gfK_at gx 0 h3
    have e2 := gridL_at [] h3
    rw [getElem!_pos (gfK gx 0) i h1] at e1
    rw [getElem!_pos (gridL []) i h2] at e2
    rw [e1, e2, if_neg (fun h => absurd h.2 (Nat.not_lt_zero _))]; rfl
theorem b2n_le (b : Bool) : b.toNat ≤ 1 := by cases b <;> decide
end Go.KD
namespace Go.Proofs.Ytldogbahbjompaa
open Go.RowKit Go.KD
attribute [local go_sem] later_cell later_frozen
theorem better_c (a b : Int) (w : World) : Calls Try.prog 142 #[.int .i64 a, .int .i64 b] w fun e w' => e = .returned (.bool (betB a b)) ∧ w = w' := by
  have HB : Hid (betB a b = (decide (0 ≤ a) && (decide (b < 0) || decide (a < b)))) := rfl
  cases h1 : decide (0 ≤ a) <;> cases h2 : decide (b < 0) <;> cases h3 : decide (a < b)
  all_goals
    rw [h1, h2, h3] at HB
    go_enter Try.func142, Try.ntmps142
    go_wp2
    go_ret
    exact ⟨ret_bool (by rw [HB.out]; rfl), rfl⟩
theorem zeroGridR : (∀ w, (zeroValue 75).run Try.prog w = .ok (.agg (ints zer).toArray) w) ∧ (Try.prog.info? 75).map (·.size) = some 768 := zero_of_info (by kernel_rfl)
set_option maxRecDepth 100000 in
set_option maxHeartbeats 16000000 in
theorem remain_c (v : Value) (m : Mz) (w : World) (hm : MzAt w v m) (ok : MzOk m) : Calls Try.prog 94 #[v] w fun e w' => e = .returned (.agg (ints (gridD (dM m))).toArray) ∧ Below w.heap.size w w' := by
  have hM := hm
  obtain ⟨⟨ad, cd, ak, ck, rfl, hd, hk'⟩, nd, nk⟩ := hM
  have HZG := Lib.hid zeroGridR
  have hs1 := ok.s1
  have hs2 := ok.s2
  obtain ⟨gx, hgx⟩ : ∃ gx : Nat, m.size - 1 = (gx : Int) := Int.eq_ofNat_of_zero_le (by omega)
  have hgx12 : gx < 12 := by omega
  have HGX := Lib.hid hgx
  have hwg : IntKind.i64.wrap (m.size - 1) = (gx : Int) := by rw [← hgx, IntKind.wrap_i64]; omega
  have HGT : Hid (∀ i : Nat, i < 768 → (gfK gx 64)[i]! = if goalT m i = true then 0 else -1) := fun i hi => by
    rw [gfK_at gx 64 hi]
    by_cases e : i / 64 = gx
    · rw [if_pos ⟨e, Nat.mod_lt _ (by omega)⟩, if_pos (by unfold goalT; rw [decide_eq_true_iff]; omega)]
    · rw [if_neg (fun h => e h.1), if_neg (by unfold goalT; rw [decide_eq_true_iff]; omega)]
  obtain ⟨d, hd0⟩ : ∃ d, d = dM m := ⟨_, rfl⟩
  rw [← hd0]
  have HDO : Hid (DOk (nxM m) (goalT m) d) := by rw [hd0]; exact dM_ok m
  have HGI : Hid (GInv (goalT m) d (gfK gx 64)) := GInv.start HDO.out (gfK_len _ _) HGT.out
  have hgxI : (gx : Int) < 12 := by omega
  clear hd0 hgx
  obtain ⟨bx, hbx⟩ : ∃ bx, bx = Obj.cells #[.int .i64 m.size, .slice ad m.doors.length cd, .slice ak m.keys.length ck] 29 := ⟨_, rfl⟩
  have HBX := Lib.hid hbx
  have HV0 : Hid (VW w w bx ((((w.alloc bx).alloc (.cells (ints zer).toArray 75)).alloc (.cells (ints zer).toArray 75)).setCells (w.heap.size + 2) 0 (ints zer)) zer) := VW.start (Nat.le_refl _) _ _
  have HTH : Hid ((((w.alloc bx).alloc (.cells (ints zer).toArray 75)).alloc (.cells (ints zer).toArray 75)).there (w.heap.size + 2) 0 768) := by
    have := (GrA.new ((w.alloc bx).alloc (.cells (ints zer).toArray 75)) 75 zer_len).there
    have e : ((w.alloc bx).alloc (.cells (ints zer).toArray 75)).heap.size = w.heap.size + 2 := by simp
    rw [e] at this
    exact this
  have hst : (storeCells ⟨w.heap.size + 1 + 1, 0, none⟩ (ints zer)).run Try.prog (((w.alloc bx).alloc (.cells (ints zer).toArray 75)).alloc (.cells (ints zer).toArray 75)) = .ok () ((((w.alloc bx).alloc (.cells (ints zer).toArray 75)).alloc (.cells (ints zer).toArray 75)).setCells (w.heap.size + 2) 0 (ints zer)) := run_store_grid _ _ zer_len HTH.out
  obtain ⟨W0, hW0⟩ : ∃ W0, W0 = ((((w.alloc bx).alloc (.cells (ints zer).toArray 75)).alloc (.cells (ints zer).toArray 75)).setCells (w.heap.size + 2) 0 (ints zer)) := ⟨_, rfl⟩
  rw [← hW0] at hst HV0
  rw [hbx] at hst
  have HM := Lib.hid hm
  have OK := Lib.hid ok
  have HK := Lib.hid hk'
  have hnk := ok.nk
  clear hbx hW0 hm ok hd hk' nd nk
  go_enter Try.func94, Try.ntmps94
  go_wp2_with (first
    | (refine wpList_alloc_z _ rfl 75 rfl _ HZG.out.1 ?_)
    | (refine wpList_build_z _ rfl 75 rfl 12 73 Try.underlying75 64 (by kernel_rfl) _ HZG.out.1 ?_))
  go_loopw [14] (fun i wr => ∃ k : Nat, i = .int .i64 k ∧ k ≤ 12 ∧ Hid (VW w w bx wr (iniK (k * 64)))) (fun i _ => 12 - (intOf i).toNat)
  case atStart => exact ⟨0, rfl, by omega, by rw [Nat.zero_mul, iniK_0]; exact HV0⟩
  case round =>
    clear HV0 hst HTH
    obtain ⟨wo, rfl⟩ : ∃ wo : World, wo = wr := ⟨_, rfl⟩
    obtain ⟨k, rfl, hk, HV⟩ := hrel
    by_cases hlt : k < 12
    · have hkI : (k : Int) < 12 := by omega
      go_wp2
      go_loopw [17] (fun i wr => ∃ j : Nat, i = .int .i64 j ∧ j ≤ 64 ∧ Hid (VW w w bx wr (iniK (k * 64 + j)))) (fun i _ => 64 - (intOf i).toNat)
      case atStart => exact ⟨0, rfl, by omega, HV⟩
      case round =>
        clear HV
        obtain ⟨wi, rfl⟩ : ∃ wi : World, wi = wr := ⟨_, rfl⟩
        obtain ⟨j, rfl, hj, HV⟩ := hrel
        by_cases hlt2 : j < 64
        · have hjI : (j : Int) < 64 := by omega
          have c0 := HV.out.out.cell (k * 64 + j) (by omega)
          have f0 := HV.out.out.fr (k * 64 + j) (by omega)
          go_wp2
          go_roundw
          case rel => exact ⟨j + 1, by go_num, by omega, by have := HV.out.set (Nat.le_refl _) (k * 64 + j) (-1); rw [iniK_next (by omega)] at this; exact this⟩
          case measure => simp [intOf]; omega
        · obtain rfl : j = 64 := by omega
          go_wp2
          go_roundw
          case rel => exact ⟨k + 1, by go_num, by omega, by rw [Nat.succ_mul]; exact HV⟩
          case measure => simp [intOf]; omega
    · obtain rfl : k = 12 := by omega
      have HV1 : Hid (VW w w bx wo (gridL [])) := by have := HV.out; rw [show 12 * 64 = 768 from rfl, iniK_all] at this; exact this
      clear HV hlt
      rw [show ((12 : Nat) : Int) = 12 from rfl]
      go_upto_region 11 with fail
      go_cut [27] (fun s wx => (s = .bool true ∨ s = .bool false) ∧ Hid (VW w w bx wx (gridL [])))
      case first =>
        go_region
        all_goals
          go_wp2_with fail
          go_meet
          case rel => exact ⟨by simp, HV1.out.later (Nat.le_refl _) (by (repeat (first | exact Below.refl _ _ | apply Below.drew | apply below_drewN | (refine Below.setCell ?_ (by first | omega | (simp; done) | (simp; omega) | (dsimp only; omega)) _) | (refine Below.alloc ?_ (by first | omega | (simp; done) | (simp; omega) | (dsimp only; omega)) _))))⟩
      case rest =>
        clear HV1
        obtain ⟨hs27, HV2⟩ := hcut
        obtain ⟨w2, rfl⟩ : ∃ w2 : World, w2 = wc := ⟨_, rfl⟩
        have hgI : m.size - 1 = (gx : Int) := HGX.out
        go_upto_if 27 with fail
        go_cut [] (fun wx => Hid (VW w w bx wx (gfK gx 64)))
        case first =>
          rcases hs27 with rfl | rfl
          · obtain ⟨q0, q1, q2⟩ := HV2.out.cells HBX.out
            go_wp2
            go_loopw [31] (fun i wr => ∃ k : Nat, i = .int .i64 k ∧ k ≤ 64 ∧ Hid (VW w w bx wr (gfK gx k))) (fun i _ => 64 - (intOf i).toNat)
            case atStart => exact ⟨0, rfl, by omega, by rw [gfK_0]; exact HV2⟩
            case round =>
              clear HV2 q0 q1 q2
              obtain ⟨wi, rfl⟩ : ∃ wi : World, wi = wr := ⟨_, rfl⟩
              obtain ⟨k, rfl, hk, HV⟩ := hrel
              by_cases hlt2 : k < 64
              · have hkI : (k : Int) < 64 := by omega
                have c0 := HV.out.out.cell (gx * 64 + k) (by omega)
                have f0 := HV.out.out.fr (gx * 64 + k) (by omega)
                go_wp2
                go_roundw
                case rel => exact ⟨k + 1, by go_num, by omega, by have := HV.out.set (Nat.le_refl _) (gx * 64 + k) 0; rw [gfK_next hgx12 hlt2] at this; exact this⟩
                case measure => simp [intOf]; omega
              · obtain rfl : k = 64 := by omega
                go_wp2
                go_meet
                case rel => exact HV
          · obtain ⟨q0, q1, q2⟩ := HV2.out.cells HBX.out
            go_wp2
            go_loopw [36] (fun i wr => ∃ k : Nat, i = .int .i64 k ∧ k ≤ 64 ∧ Hid (VW w w bx wr (gfK gx k))) (fun i _ => 64 - (intOf i).toNat)
            case atStart => exact ⟨0, rfl, by omega, by rw [gfK_0]; exact HV2⟩
            case round =>
              clear HV2 q0 q1 q2
              obtain ⟨wi, rfl⟩ : ∃ wi : World, wi = wr := ⟨_, rfl⟩
              obtain ⟨k, rfl, hk, HV⟩ := hrel
              obtain ⟨q0, q1, q2⟩ := HV.out.cells HBX.out
              by_cases hlt2 : k < 64
              · have hkI : (k : Int) < 64 := by omega
                have c0 := HV.out.out.cell (gx * 64 + k) (by omega)
                have f0 := HV.out.out.fr (gx * 64 + k) (by omega)
                go_wp2
                go_roundw
                case rel => exact ⟨k + 1, by go_num, by omega, by have := HV.out.set (Nat.le_refl _) (gx * 64 + k) 0; rw [gfK_next hgx12 hlt2] at this; exact this⟩
                case measure => simp [intOf]; omega
              · obtain rfl : k = 64 := by omega
                go_wp2
                go_meet
                case rel => exact HV
        case rest =>
          clear HV2 hs27
          have HV3 := hcut
          clear hcut
          obtain ⟨w3, rfl⟩ : ∃ w3 : World, w3 = wc := ⟨_, rfl⟩
          clear hgI hwg HGX HGT
          go_wp2
          go_loopg [7] (2 * potL (gfK gx 64) + 1) (fun n t wr => ∃ (G : List Int) (b : Bool), n = 2 * potL G + b.toNat ∧ t = .bool b ∧ Hid (GInv (goalT m) d G) ∧ Hid (VW w w bx wr G) ∧ Hid (b = false → RlxB m G 768))
          case atStart => exact ⟨gfK gx 64, true, rfl, rfl, HGI, HV3, fun h => by cases h⟩
          case round =>
            clear HGI HV3
            obtain ⟨wo, rfl⟩ : ∃ wo : World, wo = wr := ⟨_, rfl⟩
            obtain ⟨G, b, hgk, rfl, HG, HV, HR⟩ := hrel
            have HGK := Lib.hid hgk
            clear hgk
            cases b
            · have HGD : Hid (G = gridD d) := gridD_eq HG.out.len (HG.out.done HDO.out (nxM_b OK.out) (fun i hi => HR.out rfl i hi))
              have hGl : G.length = 768 := HG.out.len
              have hst2 := run_store_grid (P := Try.prog) wo G HG.out.len HV.out.res.there
              have hgr := grown_setCells (w.heap.size + 1) (ints G) 0 wo
              have hG9 := GrA.of HG.out.len HV.out.res.there HV.out.res.lt
              obtain ⟨w9, hw9⟩ : ∃ w9, w9 = wo.setCells (w.heap.size + 1) 0 (ints G) := ⟨_, rfl⟩
              rw [← hw9] at hst2 hgr hG9
              have HB9 : Hid (Below w.heap.size w w9) := Below.grown HV.out.bel hgr (by have := HV.out.sz; omega) (fun b hb => by cases hb; omega)
              have HI9 : Hid ((Try.prog.info? 75).map (·.size) = some (ints G).length) := by show _ = _; rw [length_ints, HG.out.len]; exact HZG.out.2
              have hld := run_loadVar_mid (P := Try.prog) w9 (w.heap.size + 1) 0 75 (ints G) _ hG9.range Try.underlying75 rfl HI9.out
              have HRG := Lib.hid HV.out.out.range
              clear hw9 hgr hG9 HV HG HR
              go_wp2_with fail
              refine wp_load_mid 75 _ rfl (w.heap.size + 2) 0 rfl (ints G) _ HRG.out Try.underlying75 rfl HI9.out ?_
              go_wp2
              refine bodyPost_ret (v := .agg (ints G).toArray) (by simp [results, Try.results94, asAddr, Result.andThen, hld]) rfl ?_
              exact ⟨by rw [HGD.out], HB9.out⟩
            · obtain ⟨q0, q1, q2⟩ := HV.out.cells HBX.out
              have HB0 : Hid (RlxB m G 0) := fun i hi => absurd hi (Nat.not_lt_zero i)
              go_wp2
              go_loopw [7, 49] (fun bv kv wr => ∃ (k : Nat) (b : Bool) (G' : List Int), kv = .int .i64 k ∧ (k : Int) ≤ m.size ∧ bv = .bool b ∧ Hid (GInv (goalT m) d G') ∧ Hid (VW w w bx wr G') ∧ Hid (potL G' + b.toNat ≤ potL G) ∧ Hid (b = false → RlxB m G' (k * 64))) (fun _ kv _ => (m.size - intOf kv).toNat)
              case atStart => exact ⟨0, false, G, rfl, by omega, rfl, HG, HV, Nat.le_refl _, fun _ => by rw [Nat.zero_mul]; exact HB0.out⟩
              case round =>
                clear HG HV HR HB0 q0 q1 q2
                obtain ⟨wx, rfl⟩ : ∃ wx : World, wx = wr := ⟨_, rfl⟩
                obtain ⟨k, b, G1, rfl, hk, rfl, HG, HV, HP, HR⟩ := hrel
                by_cases hlt : (k : Int) < m.size
                · have hk12 : k < 12 := by omega
                  have hkI : (k : Int) < 12 := by omega
                  go_wp2
                  go_loopw [7, 52] (fun bv lv wr => ∃ (l : Nat) (b : Bool) (G' : List Int), lv = .int .i64 l ∧ l ≤ 64 ∧ bv = .bool b ∧ Hid (GInv (goalT m) d G') ∧ Hid (VW w w bx wr G') ∧ Hid (potL G' + b.toNat ≤ potL G) ∧ Hid (b = false → RlxB m G' (k * 64 + l))) (fun _ lv _ => 64 - (intOf lv).toNat)
                  case atStart => exact ⟨0, b, G1, rfl, by omega, rfl, HG, HV, HP, HR⟩
                  case round =>
                    clear HG HV HP HR
                    obtain ⟨wy, rfl⟩ : ∃ wy : World, wy = wr := ⟨_, rfl⟩
                    obtain ⟨l, b, G2, rfl, hl, rfl, HG, HV, HP, HR⟩ := hrel
                    by_cases hlt2 : l < 64
                    · have hlI : (l : Int) < 64 := by omega
                      obtain ⟨q0, q1, q2⟩ := HV.out.cells HBX.out
                      have hzy := HV.out.sz
                      obtain ⟨YL, hYL⟩ : ∃ YL, YL = stpN m k l 12 := ⟨_, rfl⟩
                      have HYL : Hid (mem (stN m (k : Int) l) = natsI YL) := by rw [hYL]; exact (stpN_size OK.out k l (by omega) (by omega)).symm
                      have HYN : Hid (nxM m (k * 64 + l) = YL.map (Go.KD.stM m l)) := by rw [hYL]; exact nxM_at hlt hlt2
                      have HYM : Hid (∀ y ∈ YL, y < 12 ∧ (y : Int) < m.size) := by
                        rw [hYL]
                        intro y hy
                        rw [stpN_mem] at hy
                        exact ⟨hy.1, (stN_bits OK.out hy.2).1⟩
                      have hYl : YL.length ≤ 12 := by rw [hYL]; exact stpN_len _ _ _ _
                      clear hYL
                      go_wp2_with (first
                        | (go_at_call 141; refine (steps_c _ m (k : Int) l _ (HM.out.later HV.out.bel) OK.out).mono ?_; rintro e w4 ⟨rfl, hb4⟩; have HB4 := Lib.hid hb4; clear hb4)
                        | (go_at_call 108; refine (members_c _ (Nat.lt_of_lt_of_le (stN_lt OK.out _ _) (by decide)) _).mono ?_; rintro e w5 ⟨u5, rfl, ho5, hb5⟩; rw [HYL.out, natsI_len] at ho5; obtain ⟨a5, c5, rfl⟩ := own_slice ho5; have HB5 : Hid (Below w4.heap.size w4 w5) := hb5; have HO5 : Hid (Own w4.heap.size w5.heap.size w5 3 1 (.slice a5 YL.length c5) YL.length (ints (natsI YL))) := Own.of ho5; clear ho5 hb5))
                      have HV5 : Hid (VW w w bx w5 G2) := (HV.out.later (Nat.le_refl _) HB4.out).later (Nat.le_refl _) HB5.out
                      have hz4 := HB4.out.size
                      have hz5 := HB5.out.size
                      have HR5 : Hid (b = false → RlxB m G2 (k * 64 + l) ∧ RlxJ m G2 (k * 64 + l) 0) := fun h => ⟨HR.out h, fun p hp => absurd hp (Nat.not_lt_zero p)⟩
                      clear HV HR q0 q1 q2 HB4 HB5
                      go_loopw [7, 61] (fun bv jv wr => ∃ (j : Nat) (b : Bool) (G' : List Int), jv = .int .i64 j ∧ j ≤ YL.length ∧ bv = .bool b ∧ Hid (GInv (goalT m) d G') ∧ Hid (VW w w bx wr G') ∧ Hid (potL G' + b.toNat ≤ potL G) ∧ Hid (b = false → RlxB m G' (k * 64 + l) ∧ RlxJ m G' (k * 64 + l) j) ∧ w5.heap.size ≤ wr.heap.size ∧ Hid (Own w4.heap.size w5.heap.size wr 3 1 (.slice a5 YL.length c5) YL.length (ints (natsI YL)))) (fun _ jv _ => YL.length - (intOf jv).toNat)
                      case atStart => exact ⟨0, b, G2, rfl, Nat.zero_le _, rfl, HG, HV5, HP, HR5, Nat.le_refl _, HO5⟩
                      case round =>
                        clear HG HV5 HP HR5 HO5
                        obtain ⟨wz, rfl⟩ : ∃ wz : World, wz = wr := ⟨_, rfl⟩
                        obtain ⟨j, b, G3, rfl, hj, rfl, HG, HV, HP, HR, hzz, HO⟩ := hrel
                        by_cases hlt3 : j < YL.length
                        · have hjI : (j : Int) < (YL.length : Int) := by omega
                          have hjm : YL[j]! ∈ YL := by rw [getElem!_pos YL j hlt3]; exact List.getElem_mem hlt3
                          obtain ⟨hy12, hys⟩ := HYM.out _ hjm
                          obtain ⟨b8, off8, av, ha8, HX, hbs8, e8⟩ := (ic_of' HO.out (natsI_len YL).symm).at j (by rw [natsI_len]; exact hlt3)
                          subst ha8
                          have hav := HX.out
                          rw [natsI_at hlt3] at hav
                          obtain ⟨y, hy⟩ : ∃ y, y = YL[j]! := ⟨_, rfl⟩
                          rw [← hy] at hy12 hys hav
                          subst hav
                          have hyI : (y : Int) < 12 := by omega
                          obtain ⟨bk, offk, kx, hak, HKX, hbsk, ek⟩ := (HK.out.later HV.out.bel).at y (by omega)
                          subst hak
                          have hkx := key_facts OK.out (k := y) (by omega)
                          rw [HKX.out] at hkx
                          obtain ⟨kn, rfl⟩ := Int.eq_ofNat_of_zero_le hkx.1
                          have hkn : kn < 64 := by omega
                          obtain ⟨t, ht⟩ : ∃ t, t = l ||| kn := ⟨_, rfl⟩
                          have ht64 : t < 64 := by rw [ht]; exact Nat.or_lt_two_pow (n := 6) hlt2 hkn
                          have eo : bits .or .i64 (l : Int) (kn : Int) = (t : Int) := by rw [ht]; exact i64_or l kn (by omega) (by omega)
                          have HAT : Hid ((nxM m (k * 64 + l))[j]! = y * 64 + t) := by
                            show _ = _
                            rw [HYN.out, getElem!_pos _ j (by simpa using hlt3), List.getElem_map, ← getElem!_pos YL j hlt3, ← hy]
                            unfold Go.KD.stM
                            rw [HKX.out, Int.toNat_natCast, ht]
                          have HMEM : Hid (y * 64 + t ∈ nxM m (k * 64 + l)) := by
                            show _ ∈ _
                            rw [← HAT.out, getElem!_pos _ j (by rw [HYN.out, List.length_map]; exact hlt3)]
                            exact List.getElem_mem _
                          have htI : (t : Int) < 64 := by omega
                          have ec := HV.out.out.cell (y * 64 + t) (by omega)
                          have ei := HV.out.out.cell (k * 64 + l) (by omega)
                          have fi := HV.out.out.fr (k * 64 + l) (by omega)
                          obtain ⟨nv, hnv⟩ : ∃ nv, nv = G3[y * 64 + t]! := ⟨_, rfl⟩
                          obtain ⟨ov, hov⟩ : ∃ ov, ov = G3[k * 64 + l]! := ⟨_, rfl⟩
                          have hnv768 : nv ≤ 768 := by
                            rcases Int.lt_or_le nv 0 with h1 | h1
                            · omega
                            · have := HG.out.up (y * 64 + t) (by omega) (by omega); omega
                          have hnvlo : -1 ≤ nv := by rw [hnv]; exact HG.out.lo (y * 64 + t) (by omega)
                          have HRX : Hid (0 ≤ nv → betB (nv + 1) ov = !relxB G3 (k * 64 + l) (y * 64 + t)) := by rw [hnv, hov]; exact relx_bet
                          have HRN : Hid (nv < 0 → relxB G3 (k * 64 + l) (y * 64 + t) = true) := by rw [hnv]; exact fun h => relxB_iff.2 (fun h2 => by omega)
                          rw [← hnv] at ec
                          rw [← hov] at ei
                          have HNV := Lib.hid hnv
                          have HRJ : Hid (relxB G3 (k * 64 + l) (y * 64 + t) = true → b = false → RlxB m G3 (k * 64 + l) ∧ RlxJ m G3 (k * 64 + l) (j + 1)) := fun h1 h2 => ⟨(HR.out h2).1, (HR.out h2).2.next (by rw [HAT.out]; exact h1)⟩
                          have hzw := HV.out.sz
                          have hzA : w.heap.size < wz.heap.size := by omega
                          have hzB : w.heap.size + 2 < wz.heap.size := by omega
                          have hzC : w.heap.size + 1 + 1 < wz.heap.size := by omega
                          obtain ⟨q0, q1, q2⟩ := HV.out.cells HBX.out
                          clear ht hnv hov hy hkx hjm HR
                          go_upto_region 35 with fail
                          refine wp_region_later (wz.heap.size) (by kernel_rfl) (by kernel_rfl) ?_
                          repeat (first | go_big_quiet_skip | (go_big_quiet_want; go_big_quiet_op; go_big_quiet_on))
                          refine wpQuiet_nil ?_
                          rintro w9 ⟨⟨w9', hb9⟩, h9⟩
                          change w9 = w9' at h9
                          subst h9
                          obtain ⟨hc9, hf9, hz9⟩ := bcell3 hb9
                          have HV9 : Hid (VW w w bx w9 G3) := HV.out.later (Nat.le_refl _) hb9
                          have HO9 : Hid (Own w4.heap.size w5.heap.size w9 3 1 (.slice (some ⟨b8, off8, none⟩) YL.length c5) YL.length (ints (natsI YL))) := HO.out.later hb9 hzz
                          have ei9 := HV9.out.out.cell (k * 64 + l) (by omega)
                          have fi9 := HV9.out.out.fr (k * 64 + l) (by omega)
                          have hz9' := hb9.size
                          have HGV : Hid (GrA w9 (w.heap.size + 2) G3) := HV9.out.out
                          obtain ⟨ov9, hov9⟩ : ∃ ov9, ov9 = G3[k * 64 + l]! := ⟨_, rfl⟩
                          rw [← hov9] at ei9
                          have HOV := Lib.hid hov9
                          have HRX2 : Hid (0 ≤ nv → betB (nv + 1) ov9 = !relxB G3 (k * 64 + l) (y * 64 + t)) := fun h => by have := relx_bet (G := G3) (i := k * 64 + l) (j := y * 64 + t) (by rw [← HNV.out]; exact h); rw [← HNV.out, ← HOV.out] at this; exact this
                          clear hov9 ec ei fi q0 q1 q2 HV HO HRX ek e8 hc9 hf9 hz9
                          by_cases hn0 : 0 ≤ nv
                          · have hdn : decide (0 ≤ nv) = true := decide_eq_true hn0
                            cases hrx : relxB G3 (k * 64 + l) (y * 64 + t)
                            · have hbt : betB (nv + 1) ov9 = true := by rw [HRX2.out hn0, hrx]; rfl
                              have HBET := HG.out.better HDO.out (i := k * 64 + l) (j := y * 64 + t) (by omega) (by omega) HMEM.out hrx
                              rw [← HNV.out] at HBET
                              have HB1 : Hid (GInv (goalT m) d (G3.set (k * 64 + l) (nv + 1))) := HBET.1
                              have HB2 : Hid (potL (G3.set (k * 64 + l) (nv + 1)) + true.toNat ≤ potL G) := by
                                have h1 := HBET.2; have h2 := HP.out; have h3 : true.toNat = 1 := rfl
                                show _ ≤ _
                                omega
                              clear hrx HBET
                              go_wp2_with (go_at_call 142; refine (better_c (nv + 1) ov9 _).mono ?_; rintro e w10 ⟨rfl, rfl⟩; rw [hbt])
                              have HV10 : Hid (VW w w bx (w9.setCell ⟨w.heap.size + 2, k * 64 + l, none⟩ (.int .i64 (nv + 1))) (G3.set (k * 64 + l) (nv + 1))) := HV9.out.set (Nat.le_refl _) _ _
                              have HO10 : Hid (Own w4.heap.size w5.heap.size (w9.setCell ⟨w.heap.size + 2, k * 64 + l, none⟩ (.int .i64 (nv + 1))) 3 1 (.slice (some ⟨b8, off8, none⟩) YL.length c5) YL.length (ints (natsI YL))) := HO9.out.setCell (.inl (by show w.heap.size + 2 < _; omega)) _
                              go_roundw
                              case rel => exact ⟨j + 1, true, _, by go_num, by omega, rfl, HB1, HV10, HB2, (fun h => absurd h (by decide)), (by simp only [World.size_setCell]; omega), HO10⟩
                              case measure => simp [intOf]; omega
                            · have hbt : betB (nv + 1) ov9 = false := by rw [HRX2.out hn0, hrx]; rfl
                              have HRX3 := Lib.hid hrx
                              clear hrx
                              go_wp2_with (go_at_call 142; refine (better_c (nv + 1) ov9 _).mono ?_; rintro e w10 ⟨rfl, rfl⟩; rw [hbt])
                              go_roundw
                              case rel => exact ⟨j + 1, b, G3, by go_num, by omega, rfl, HG, HV9, HP, HRJ.out HRX3.out, by omega, HO9⟩
                              case measure => simp [intOf]; omega
                          · have hdn : decide (0 ≤ nv) = false := decide_eq_false hn0
                            have HRX3 : Hid (relxB G3 (k * 64 + l) (y * 64 + t) = true) := HRN.out (by omega)
                            go_wp2
                            go_roundw
                            case rel => exact ⟨j + 1, b, G3, by go_num, by omega, rfl, HG, HV9, HP, HRJ.out HRX3.out, by omega, HO9⟩
                            case measure => simp [intOf]; omega
                        · obtain rfl : j = YL.length := by omega
                          have HR9 : Hid (b = false → RlxB m G3 (k * 64 + (l + 1))) := fun h => by
                            have := (HR.out h).1.next (HR.out h).2 (by rw [HYN.out, List.length_map]; exact Nat.le_refl _)
                            rwa [Nat.add_assoc] at this
                          go_wp2
                          go_roundw
                          case rel => exact ⟨l + 1, b, G3, by go_num, by omega, rfl, HG, HV, HP, HR9⟩
                          case measure => simp [intOf]; omega
                    · obtain rfl : l = 64 := by omega
                      go_wp2
                      go_roundw
                      case rel => exact ⟨k + 1, b, G2, by go_num, by omega, rfl, HG, HV, HP, fun h => by rw [Nat.succ_mul]; exact HR.out h⟩
                      case measure => simp [intOf]; omega
                · have hdk : decide ((k : Int) < m.size) = false := decide_eq_false hlt
                  have HR9 : Hid (b = false → RlxB m G1 768) := fun h i hi j hj => by
                    rcases Nat.lt_or_ge i (k * 64) with h1 | h1
                    · exact HR.out h i h1 j hj
                    · have := (nxM_mem.1 hj).1
                      omega
                  go_wp2
                  go_roundg (2 * potL G1 + b.toNat)
                  case measure =>
                    have h1 := HP.out
                    have h2 := HGK.out
                    have h3 : true.toNat = 1 := rfl
                    cases b
                    · have h4 : false.toNat = 0 := rfl
                      omega
                    · omega
                  case rel => exact ⟨G1, b, rfl, rfl, HG, HV, HR9⟩
end Go.Proofs.Ytldogbahbjompaa
