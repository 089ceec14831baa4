/- FewestActs: the program's and the reference's. -/
import Derived.Test.YtkhackdbnmcffaaKdVis
import Derived.Test.YtkhackdbnmcffaaKdSpr
import Derived.Test.YtkhackdbnmcffaaKdGoal
import Derived.Test.YtkhackdbnmcffaaKdBits
set_option linter.unusedVariables false
set_option linter.unusedSimpArgs false
namespace Go.KD
open Go.RowKit
theorem q2_none (W : World) (t : TypeId) : Q2 (W.alloc (.cells #[] t)) W.heap.size 0 0 [] :=
  ⟨by simp, Nat.le_refl _, by unfold maxLen; omega, fun j hj => by simp at hj, fun j hj => by simp at hj, fun j hj => by omega⟩
/-- The first k visits of the goal. -/
def goalK (m : Wk) (k : Nat) : List (Int × Int) := ((goalS m).take k).map prN
theorem goalK_len (m : Wk) {k : Nat} (h : k ≤ 64) : (goalK m k).length = k := by unfold goalK goalS; simp; omega
theorem goalK_next {m : Wk} {k : Nat} (h : k < 64) : goalK m (k + 1) = goalK m k ++ [(((m.pulls.length - 1 : Nat) : Int), (k : Int))] := by
  have hl : k < (goalS m).length := by unfold goalS; simpa using h
  have he : (goalS m)[k]! = (m.pulls.length - 1) * 64 + k := by
    rw [getElem!_pos _ k hl]; simp [goalS]
  unfold goalK
  rw [bTake hl, List.map_append, he]
  show _ ++ [prN _] = _
  rw [prN_id _ k h]
theorem popc_le6 (k : Nat) (hk : k < 64) : popc k ≤ 6 := by have := pop_le6 k hk; unfold popc; omega
theorem lst_congr {v u : Nat → Int} : ∀ k, (∀ j, j < k → v j = u j) → lstK v k = lstK u k
  | 0, _ => rfl
  | k + 1, h => by
    have ih := lst_congr k (fun j hj => h j (by omega))
    simp only [lstK]
    rw [ih, h k (by omega)]
theorem goalK_all (m : Wk) : goalK m 64 = (goalS m).map prN := by
  unfold goalK
  rw [List.take_of_length_le (by unfold goalS; simp)]
end Go.KD
namespace Go.Proofs.Ytkhackdbnmcffaa
open Go.RowKit Go.KD
attribute [local go_sem] later_cell later_frozen
set_option maxRecDepth 100000 in
set_option maxHeartbeats 16000000 in
theorem toGoal_c (m : Wk) (ad ak : Option Addr) (cd ck : Nat) (w : World) (hm : WkAt w (.agg #[.int .i64 m.size, .slice ad m.gates.length cd, .slice ak m.pulls.length ck]) m) (ok : WkOk m) :
    Calls Try.prog 76 #[(.agg #[.int .i64 m.size, .slice ad m.gates.length cd, .slice ak m.pulls.length ck])] w fun e w' => e = .returned (.agg (ints (gridL (goalF m))).toArray) ∧ Below w.heap.size w w' := by
  obtain ⟨i2, ji, jz0, jz1, jz2⟩ := info_parts infoA2
  have HZG := Lib.hid zeroGrid
  have hnp := ok.np
  have hs1 := ok.s1
  have hs2 := ok.s2
  obtain ⟨gx, hgx⟩ : ∃ gx, gx = m.pulls.length - 1 := ⟨_, rfl⟩
  have hgI : m.size - 1 = (gx : Int) := by omega
  have hw1 : IntKind.i64.wrap (m.size - 1) = (gx : Int) := by rw [IntKind.wrap_i64]; omega
  have HGK : Hid (∀ k, k < 64 → goalK m (k + 1) = goalK m k ++ [((gx : Int), (k : Int))]) := fun k hk => by rw [hgx]; exact goalK_next hk
  have HGLN : Hid (∀ k, k ≤ 64 → (goalK m k).length = k) := fun k hk => goalK_len m hk
  obtain ⟨W1, hW1⟩ : ∃ W1, W1 = ((w.alloc (.cells #[.int .i64 m.size, .slice ad m.gates.length cd, .slice ak m.pulls.length ck] 29)).alloc (.cells (ints zer).toArray 80)) := ⟨_, rfl⟩
  have hb1 : Below w.heap.size w W1 := by rw [hW1]; exact (((Below.refl _ _).alloc (Nat.le_refl _) _).alloc (by simp) _)
  have hz1 : W1.heap.size = w.heap.size + 2 := by rw [hW1]; simp
  have HB1 := Lib.hid hb1
  have HM1 : Hid (WkAt W1 (.agg #[.int .i64 m.size, .slice ad m.gates.length cd, .slice ak m.pulls.length ck]) m) := hm.later hb1
  have HR1 : Hid (GrA W1 (w.heap.size + 1) zer) := by
    have := GrA.new (w.alloc (.cells #[.int .i64 m.size, .slice ad m.gates.length cd, .slice ak m.pulls.length ck] 29)) 80 zer_len
    rw [← hW1] at this
    show GrA W1 _ _
    simpa using this
  have HC1 : Hid (W1.cell? ⟨w.heap.size, 0, none⟩ = some (.int .i64 m.size) ∧ W1.cell? ⟨w.heap.size, 1, none⟩ = some (.slice ad m.gates.length cd) ∧ W1.cell? ⟨w.heap.size, 2, none⟩ = some (.slice ak m.pulls.length ck)) := by
    rw [hW1]
    have ha : ∀ o, (((w.alloc (.cells #[.int .i64 m.size, .slice ad m.gates.length cd, .slice ak m.pulls.length ck] 29)).alloc (.cells (ints zer).toArray 80))).cell? ⟨w.heap.size, o, none⟩ = (w.alloc (.cells #[.int .i64 m.size, .slice ad m.gates.length cd, .slice ak m.pulls.length ck] 29)).cell? ⟨w.heap.size, o, none⟩ := fun o => World.cell?_alloc_lt _ _ _ (by simp)
    exact ⟨(ha 0).trans (by simp [go_sem]), (ha 1).trans (by simp [go_sem]), (ha 2).trans (by simp [go_sem])⟩
  have HQ0 : Hid (Q2 (W1.alloc (.cells #[] 82)) W1.heap.size 0 0 (goalK m 0)) := q2_none W1 _
  have hz1a : w.heap.size + 2 ≤ W1.heap.size := by omega
  have hz1b : W1.heap.size ≤ w.heap.size + 2 := by omega
  have HW1 := Lib.hid hW1
  have HZ1 := Lib.hid hz1
  have OK := Lib.hid ok
  clear hb1 hz1 hm hW1 hgx hnp ok
  go_enter Try.func76, Try.ntmps76
  go_upto_region 1 with (refine wpList_alloc_z _ rfl 80 rfl _ HZG.out.1 ?_)
  rw [show (w.alloc (.cells #[.int .i64 m.size, .slice ad m.gates.length cd, .slice ak m.pulls.length ck] 29)).alloc (.cells (Value.agg (ints zer).toArray).cells 80) = W1 from HW1.out.symm]
  clear HW1
  go_wp2
  go_loopw [6, 3] (fun kv tv wr => ∃ k g off cap : Nat, kv = .int .i64 k ∧ k ≤ 64 ∧ tv = .slice (some ⟨g, off, none⟩) k cap ∧ W1.heap.size ≤ g ∧ Hid (Q2 wr g off cap (goalK m k)) ∧ Hid (Below W1.heap.size W1 wr)) (fun kv _ _ => 64 - (intOf kv).toNat)
  case atStart => exact ⟨0, W1.heap.size, 0, 0, rfl, by omega, rfl, Nat.le_refl _, HQ0, (Below.refl _ _).alloc (Nat.le_refl _) _⟩
  case round =>
    clear HQ0
    obtain ⟨wo, rfl⟩ : ∃ wo : World, wo = wr := ⟨_, rfl⟩
    obtain ⟨k, g, off, cap, rfl, hk, rfl, hg, HQ, HB⟩ := hrel
    have hzo := HB.out.size
    obtain ⟨c0, c1, c2⟩ := HC1.out
    have q0 := (HB.out.cell (p := ⟨w.heap.size, 0, none⟩) (by show w.heap.size < _; omega)).trans c0
    have q1 := (HB.out.cell (p := ⟨w.heap.size, 1, none⟩) (by show w.heap.size < _; omega)).trans c1
    have q2 := (HB.out.cell (p := ⟨w.heap.size, 2, none⟩) (by show w.heap.size < _; omega)).trans c2
    clear c0 c1 c2
    by_cases hlt : k < 64
    · have hkI : (k : Int) < 64 := by omega
      have hpl := HGLN.out k hk
      have HPL := Lib.hid hpl
      have HA : Hid (Below wo.heap.size wo (wo.alloc (.cells #[.int .i64 (gx : Int), .int .i64 (k : Int)] 82))) := (Below.refl _ _).alloc (Nat.le_refl _) _
      clear hpl
      go_wp2_with (at_builtin; refine wpList_append_q2 _ rfl _ _ 87 rfl 82 i2 _ Try.underlying87 ji jz0 jz1 jz2 rfl g off cap (goalK m k) (by rw [HPL.out]; rfl) (HQ.out.later HA.out) wo.heap.size rfl (gx : Int) (k : Int) (by simp [go_sem]) (by simp [go_sem]) (by rw [HPL.out]; omega) ?_; intro g5 off5 cap5 w5 hq5 hg5 hat5; rw [HPL.out])
      have HQ5 : Hid (Q2 w5 g5 off5 cap5 (goalK m (k + 1))) := by rw [HGK.out k hlt]; exact hq5
      have HB5 : Hid (Below W1.heap.size W1 w5) := Below.grown (HB.out.trans (HA.out.mono hzo)) hg5 (by simp; omega) (fun b hb => by cases hb; exact hg)
      have hat5' : g5 = g ∨ g5 = wo.heap.size + 1 := by simpa using hat5
      clear hq5 hg5 hat5 HA
      go_wp2
      go_roundw
      case rel => exact ⟨k + 1, g5, off5, cap5, by go_num, by omega, rfl, by omega, HQ5, HB5⟩
      case measure => simp [intOf]; omega
    · obtain rfl : k = 64 := by omega
      have HQ6 : Hid (Q2 wo g off cap ((goalS m).map prN)) := by rw [← goalK_all]; exact HQ.out
      have hSl : (goalS m).length = 64 := by unfold goalS; simp
      have HV := visits_c m ad ak cd ck (goalS m) g off cap W1 wo HM1.out OK.out HB.out (goalS_nd m) (goalS_sz OK.out) HQ6.out hg
      rw [hSl] at HV
      have HVV := Lib.hid HV
      obtain ⟨G, hG⟩ : ∃ G, G = gridL (goalF m) := ⟨_, rfl⟩
      have hGl : G.length = 768 := by rw [hG]; exact gridL_len _
      have HGG : Hid (gridL (bfF (nxW m) ((goalS m).map fun s => ((s, 0) : Bn))) = G) := by show _ = _; rw [hG]; rfl
      have HGL := Lib.hid hGl
      have HG := Lib.hid hG
      clear HV HQ hSl hG hGl
      go_upto_region 7 with fail
      go_wp2_with (go_at_call 70; refine HVV.out.mono ?_; rintro e w3 ⟨rfl, hb3⟩; rw [HGG.out]; have HB3 : Hid (Below W1.heap.size W1 w3) := HB.out.trans hb3; have HR3 : Hid (GrA w3 (w.heap.size + 1) zer) := (HR1.out.later HB3.out); have hst := run_store_grid (P := Try.prog) w3 G HGL.out HR3.out.there)
      have hgr := grown_setCells (w.heap.size + 1) (ints G) 0 w3
      have hG9 := GrA.of HGL.out HR3.out.there HR3.out.lt
      obtain ⟨w9, hw9⟩ : ∃ w9, w9 = w3.setCells (w.heap.size + 1) 0 (ints G) := ⟨_, rfl⟩
      rw [← hw9] at hgr hG9 ⊢
      have HB9 : Hid (Below w.heap.size w w9) := Below.grown (HB1.out.trans (HB3.out.mono (by omega))) hgr (by have := HR3.out.lt; omega) (fun b hb => by cases hb; omega)
      have HI9 : Hid ((Try.prog.info? 80).map (·.size) = some (ints G).length) := by show _ = _; rw [length_ints, HGL.out]; exact HZG.out.2
      have hld := run_loadVar_mid (P := Try.prog) w9 (w.heap.size + 1) 0 80 (ints G) _ hG9.range Try.underlying80 rfl HI9.out
      refine bodyPost_ret (v := .agg (ints G).toArray) (by simp [results, Try.results76, asAddr, Result.andThen, hld]) rfl ?_
      exact ⟨by rw [HG.out], HB9.out⟩
theorem told_c (n r : Int) (b : Bool) (hr : r = if 0 ≤ n then n else 0) (hb : b = decide (0 ≤ n)) (w : World) : Calls Try.prog 75 #[.int .i64 n] w fun e w' => e = .returned (.tuple #[.int .i64 r, .bool b]) ∧ w = w' := by
  by_cases h : 0 ≤ n
  · have h1 : decide (0 ≤ n) = true := decide_eq_true h
    rw [if_pos h] at hr
    rw [h1] at hb
    subst hr hb
    go_enter Try.func75, Try.ntmps75
    go_wp2
    go_ret2
    exact ⟨by first | (simp [h, Int.max_def]; done) | (simp [h, Int.max_def]; omega), rfl⟩
  · have h1 : decide (0 ≤ n) = false := decide_eq_false h
    rw [if_neg h] at hr
    rw [h1] at hb
    subst hr hb
    go_enter Try.func75, Try.ntmps75
    go_wp2
    go_ret2
    exact ⟨by first | (simp [h, Int.max_def]; done) | (simp [h, Int.max_def]; omega), rfl⟩
theorem l1Most_c (a b r : Int) (hr : r = if b < a then a else b) (w : World) : Calls Try.prog 116 #[.int .i64 a, .int .i64 b] w fun e w' => e = .returned (.int .i64 r) ∧ w = w' := by
  by_cases h : b < a
  · have h1 : decide (b < a) = true := decide_eq_true h
    rw [if_pos h] at hr
    subst hr
    go_enter Try.func116, Try.ntmps116
    go_wp2
    go_ret
    exact ⟨rfl, rfl⟩
  · have h1 : decide (b < a) = false := decide_eq_false h
    rw [if_neg h] at hr
    subst hr
    go_enter Try.func116, Try.ntmps116
    go_wp2
    go_ret
    exact ⟨rfl, rfl⟩
theorem l4Told_c (n r : Int) (b : Bool) (hr : r = if 0 ≤ n then n else 0) (hb : b = decide (0 ≤ n)) (w : World) : Calls Try.prog 73 #[.int .i64 n] w fun e w' => e = .returned (.tuple #[.int .i64 r, .bool b]) ∧ w = w' := by
  have hq : r = if (0 : Int) < n then n else 0 := by rw [hr]; split <;> split <;> omega
  have HQ := Lib.hid hq
  have HB : Hid (decide (0 ≤ n) = b) := hb.symm
  clear hr hq hb
  go_enter Try.func73, Try.ntmps73
  go_wp2_with (go_at_call 116; refine (l1Most_c n 0 r HQ.out _).mono ?_; rintro e w2 ⟨rfl, rfl⟩)
  go_ret2
  exact ⟨by rw [← HB.out]; rfl, rfl⟩
set_option maxHeartbeats 4000000 in
theorem l2Has0_c (s : Nat) (hs : s < 64) (w : World) : Calls Try.prog 136 #[.int .i64 s, .int .i64 0] w fun e w' => e = .returned (.bool true) ∧ w = w' := by
  have ha : bits .and .i64 (s : Int) 0 = 0 := by have := i64_and s 0 (by omega) (by omega); simpa using this
  go_enter Try.func136, Try.ntmps136
  go_wp2
  go_ret
  exact ⟨rfl, rfl⟩
set_option maxHeartbeats 8000000 in
theorem l4Least_c (x n c : Nat) (a : Addr) (G : List Int) (rv : Int) (hrv : lstK (fun s => G[x * 64 + s]!) 64 = rv) (w : World) (hx : x < 12) (hn : n = G.length) (hxn : x * 64 + 64 ≤ n) (hG : IC w (some a) G) : Calls Try.prog 117 #[.slice (some a) n c, .int .i64 x, .int .i64 0, .int .i64 6] w fun e w' => e = .returned (.int .i64 rv) ∧ w = w' := by
  obtain ⟨v, hv⟩ : ∃ v : Nat → Int, v = fun s => G[x * 64 + s]! := ⟨_, rfl⟩
  rw [← hv] at hrv
  have HRV := Lib.hid hrv
  have HV : Hid (∀ s, v s = G[x * 64 + s]!) := by rw [hv]; exact fun _ => rfl
  have HN := Lib.hid hn
  have HGG := Lib.hid hG
  clear hv hn hG hrv
  go_enter Try.func117, Try.ntmps117
  go_wp2
  go_loopw [10, 9] (fun kv bv wr => ∃ k : Nat, kv = .int .i64 k ∧ k ≤ 64 ∧ bv = .int .i64 (lstK v k) ∧ w = wr) (fun kv _ _ => 64 - (intOf kv).toNat)
  case atStart => exact ⟨0, rfl, by omega, rfl, rfl⟩
  case round =>
    obtain ⟨k, rfl, hk, rfl, rfl⟩ := hrel
    by_cases hlt : k < 64
    · have hkI : (k : Int) < 64 := by omega
      obtain ⟨si, hsi⟩ : ∃ si, si = x * 64 + k := ⟨_, rfl⟩
      have hsn : si < n := by omega
      have hsI : (si : Int) < (n : Int) := by omega
      obtain ⟨b, off, he, hbs, hc⟩ := HGG.out si (by rw [← HN.out]; exact hsn)
      cases he
      have hvk : G[si]! = v k := by rw [HV.out, hsi]
      rw [hvk] at hc
      have HSI := Lib.hid hsi
      have hpc := popc_le6 k hlt
      obtain ⟨pc, hpce⟩ : ∃ pc, pc = popc k := ⟨_, rfl⟩
      have HPC := Lib.hid hpce
      have hpc2 : (pc : Int) ≤ 6 := by rw [hpce]; exact hpc
      obtain ⟨bk, hbk⟩ : ∃ bk, bk = lstK v k := ⟨_, rfl⟩
      have HL : Hid (lstK v (k + 1) = if decide (0 ≤ v k) && (decide (bk < 0) || decide (v k < bk)) then v k else bk) := by show _ = _; rw [hbk]; rfl
      rw [← hbk]
      obtain ⟨vk, hvke⟩ : ∃ vk, vk = v k := ⟨_, rfl⟩
      rw [← hvke] at hc HL
      clear hsi hpc hpce hbk hvke hvk
      cases d1 : decide (0 ≤ vk) <;> cases d2 : decide (bk < 0) <;> cases d3 : decide (vk < bk)
      all_goals
        have hj := HL.out
        rw [d1, d2, d3] at hj
        have HJ := Lib.hid hj
        clear hj HL
        go_wp2_with (first
          | (go_at_call 66; refine (l4Id_c x k si HSI.out (by omega) (by omega) _).mono ?_; rintro e w2 ⟨rfl, rfl⟩)
          | (go_at_call 136; refine (l2Has0_c k hlt _).mono ?_; rintro e w2 ⟨rfl, rfl⟩)
          | (go_at_call 122; refine (l2Many_c k hlt _).mono ?_; rintro e w2 ⟨rfl, rfl⟩; rw [← HPC.out]))
        go_roundw
        case rel => exact ⟨k + 1, by go_num, by omega, by rw [HJ.out]; rfl, by first | exact rfl | trivial⟩
        case measure => simp [intOf]; omega
    · obtain rfl : k = 64 := by omega
      rw [HRV.out]
      go_wp2
      go_ret
      exact ⟨rfl, rfl⟩
set_option maxHeartbeats 4000000 in
theorem l8Goal_c (m : Wk) (ad ak : Option Addr) (cd ck : Nat) (n c : Nat) (a : Addr) (G : List Int) (rv : Int) (hrv : lstK (fun s => G[(m.pulls.length - 1) * 64 + s]!) 64 = rv) (w : World) (ok : WkOk m) (hn : n = m.pulls.length * 64) (hl : n = G.length) (hG : IC w (some a) G) : Calls Try.prog 74 #[(.agg #[.int .i64 m.size, .slice ad m.gates.length cd, .slice ak m.pulls.length ck]), .slice (some a) n c] w fun e w' => e = .returned (.int .i64 rv) ∧ Below w.heap.size w w' := by
  have h1 := ok.np
  have h2 := ok.s1
  have h3 := ok.s2
  obtain ⟨gx, hgx⟩ : ∃ gx, gx = m.pulls.length - 1 := ⟨_, rfl⟩
  rw [← hgx] at hrv
  have HRV := Lib.hid hrv
  have hgI : m.size - 1 = (gx : Int) := by omega
  have hw1 : IntKind.i64.wrap (m.size - 1) = (gx : Int) := by rw [IntKind.wrap_i64]; omega
  have hgn : gx * 64 + 64 ≤ n := by omega
  have hg12 : gx < 12 := by omega
  have HL := Lib.hid hl
  clear hn hl hgx h1 ok hrv
  go_enter Try.func74, Try.ntmps74
  go_wp2_with (go_at_call 117; refine (l4Least_c gx n c a G rv HRV.out _ hg12 HL.out hgn (hG.later (by (repeat (first | exact Below.refl _ _ | apply Below.drew | apply below_drewN | (refine Below.setCell ?_ (by first | omega | (simp; done) | (simp; omega) | (dsimp only; omega)) _) | (refine Below.alloc ?_ (by first | omega | (simp; done) | (simp; omega) | (dsimp only; omega)) _)))))).mono ?_; rintro e w2 ⟨rfl, rfl⟩)
  go_ret
  exact ⟨rfl, by (repeat (first | exact Below.refl _ _ | apply Below.drew | apply below_drewN | (refine Below.setCell ?_ (by first | omega | (simp; done) | (simp; omega) | (dsimp only; omega)) _) | (refine Below.alloc ?_ (by first | omega | (simp; done) | (simp; omega) | (dsimp only; omega)) _)))⟩
/-- The fewest acts from a visit, told by the reference. -/
theorem goal_grid {m : Wk} (ok : WkOk m) {i n : Nat} (hi : i < 768) (hn : n = m.pulls.length * 64) : lstK (fun s => (gridN n (bfF (nxW m) [((i, 0) : Bn)]))[(m.pulls.length - 1) * 64 + s]!) 64 = goalD m i := by
  rw [← goal_least ok hi]
  refine lst_congr 64 fun j hj => ?_
  have := ok.np
  have := ok.s1
  rw [gridN_at n _ (by omega)]
set_option maxRecDepth 100000 in
set_option maxHeartbeats 8000000 in
theorem implFewestActs_c (v : Value) (m : Wk) (w : World) (hm : WkAt w v m) : Calls Try.prog 20 #[v] w fun e w' => e = .returned (.tuple #[.int .i64 (pFewestActs m).1, .bool (pFewestActs m).2]) ∧ Below w.heap.size w w' := by
  have hM := hm
  obtain ⟨⟨ad, cd, ak, ck, rfl, hd, hk'⟩, nd, nk⟩ := hM
  cases b1 : worksB m
  case false =>
    have hp : pFewestActs m = (0, false) := by simp [pFewestActs, b1]
    rw [hp]
    clear hp
    go_enter Try.func20, Try.ntmps20
    go_wp2_with (go_at_call 40; refine (isWorks_c _ m _ (hm.later (by (repeat (first | exact Below.refl _ _ | apply Below.drew | apply below_drewN | (refine Below.setCell ?_ (by first | omega | (simp; done) | (simp; omega) | (dsimp only; omega)) _) | (refine Below.alloc ?_ (by first | omega | (simp; done) | (simp; omega) | (dsimp only; omega)) _)))))).mono ?_; rintro e w1 ⟨rfl, hb1⟩; have HB1 : Hid (Below w.heap.size w w1) := below_then (by (repeat (first | exact Below.refl _ _ | apply Below.drew | apply below_drewN | (refine Below.setCell ?_ (by first | omega | (simp; done) | (simp; omega) | (dsimp only; omega)) _) | (refine Below.alloc ?_ (by first | omega | (simp; done) | (simp; omega) | (dsimp only; omega)) _)))) hb1; rw [b1])
    go_ret2
    exact ⟨rfl, HB1.out⟩
  have OK := Lib.hid (worksB_true.1 b1)
  have hp : pFewestActs m = (if 0 ≤ goalD m 0 then goalD m 0 else 0, decide (0 ≤ goalD m 0)) := by simp [pFewestActs, b1]
  rw [hp]
  obtain ⟨rv, hrv⟩ : ∃ rv, rv = goalD m 0 := ⟨_, rfl⟩
  rw [← hrv]
  obtain ⟨rr, hrr⟩ : ∃ rr : Int, rr = if 0 ≤ rv then rv else 0 := ⟨_, rfl⟩
  obtain ⟨bb, hbb⟩ : ∃ bb : Bool, bb = decide (0 ≤ rv) := ⟨_, rfl⟩
  rw [← hrr, ← hbb]
  have HRR := Lib.hid hrr
  have HBB := Lib.hid hbb
  clear hrr hbb
  obtain ⟨G, hG⟩ : ∃ G, G = gridL (goalF m) := ⟨_, rfl⟩
  have hGl : G.length = 768 := by rw [hG]; exact gridL_len _
  have hGs : G[0]! = rv := by rw [hG, hrv]; exact gridL_at _ (by omega)
  obtain ⟨Rw, hRw⟩ : ∃ Rw, Rw = (ints G).toArray.extract (0 * 64) (0 * 64 + 64) := ⟨_, rfl⟩
  have hix1 : ∀ W : World, (Instr.index 80 (.agg (ints G).toArray) (.int .i64 0)).run Try.prog W = .ok (.agg Rw) W := fun W => by rw [hRw]; exact run_index_row W _ _ _ 12 64 0 _ Try.underlying80 Try.underlying78 (by kernel_rfl) (by omega)
  have hix2 : ∀ W : World, (Instr.index 78 (.agg Rw) (.int .i64 0)).run Try.prog W = .ok (.int .i64 rv) W := fun W => run_index_int W _ _ 64 0 _ _ Try.underlying78 Try.underlying3 (by kernel_rfl) (by omega) (by rw [hRw, grid_cell hGl (by omega) (by omega)]; exact congrArg (fun z => some (Value.int .i64 z)) hGs)
  have HGG := Lib.hid hG
  clear hp hrv hG hGl hGs hRw
  obtain ⟨q0, q1, q2, z1⟩ := box3W (Below.refl (w.heap.size + 1) (w.alloc (.cells #[.int .i64 m.size, .slice ad m.gates.length cd, .slice ak m.pulls.length ck] 29))) (by omega)
  go_enter Try.func20, Try.ntmps20
  go_wp2_with (first
    | (go_at_call 40; refine (isWorks_c _ m _ (hm.later (by (repeat (first | exact Below.refl _ _ | apply Below.drew | apply below_drewN | (refine Below.setCell ?_ (by first | omega | (simp; done) | (simp; omega) | (dsimp only; omega)) _) | (refine Below.alloc ?_ (by first | omega | (simp; done) | (simp; omega) | (dsimp only; omega)) _)))))).mono ?_; rintro e w1 ⟨rfl, hb1⟩; have HB1 : Hid (Below w.heap.size w w1) := below_then (by (repeat (first | exact Below.refl _ _ | apply Below.drew | apply below_drewN | (refine Below.setCell ?_ (by first | omega | (simp; done) | (simp; omega) | (dsimp only; omega)) _) | (refine Below.alloc ?_ (by first | omega | (simp; done) | (simp; omega) | (dsimp only; omega)) _)))) hb1; have HX1 : Hid (Below (w.heap.size + 1) (w.alloc (.cells #[.int .i64 m.size, .slice ad m.gates.length cd, .slice ak m.pulls.length ck] 29)) w1) := hb1.mono (by simp); clear q0 q1 q2; obtain ⟨q0, q1, q2, z1⟩ := box3W HX1.out (by omega); rw [b1])
    | (go_at_call 76; refine (toGoal_c m ad ak cd ck _ (hm.later HB1.out) OK.out).mono ?_; rintro e w2 ⟨rfl, hb2⟩; rw [← HGG.out]; have HB2 : Hid (Below w.heap.size w w2) := below_then HB1.out hb2)
    | (go_at_call 75; refine (told_c rv rr bb HRR.out HBB.out _).mono ?_; rintro e w3 ⟨rfl, rfl⟩))
  go_ret2
  exact ⟨rfl, HB2.out⟩
set_option maxRecDepth 100000 in
set_option maxHeartbeats 8000000 in
theorem specFewestActs_c (v : Value) (m : Wk) (w : World) (hm : WkAt w v m) : Calls Try.prog 19 #[v] w fun e w' => e = .returned (.tuple #[.int .i64 (pFewestActs m).1, .bool (pFewestActs m).2]) ∧ Below w.heap.size w w' := by
  have hM := hm
  obtain ⟨⟨ad, cd, ak, ck, rfl, hd, hk'⟩, nd, nk⟩ := hM
  cases b1 : worksB m
  case false =>
    have hp : pFewestActs m = (0, false) := by simp [pFewestActs, b1]
    rw [hp]
    clear hp
    go_enter Try.func19, Try.ntmps19
    go_wp2_with (go_at_call 72; refine (l8Works_c _ m _ (hm.later (by (repeat (first | exact Below.refl _ _ | apply Below.drew | apply below_drewN | (refine Below.setCell ?_ (by first | omega | (simp; done) | (simp; omega) | (dsimp only; omega)) _) | (refine Below.alloc ?_ (by first | omega | (simp; done) | (simp; omega) | (dsimp only; omega)) _)))))).mono ?_; rintro e w1 ⟨rfl, hb1⟩; have HB1 : Hid (Below w.heap.size w w1) := below_then (by (repeat (first | exact Below.refl _ _ | apply Below.drew | apply below_drewN | (refine Below.setCell ?_ (by first | omega | (simp; done) | (simp; omega) | (dsimp only; omega)) _) | (refine Below.alloc ?_ (by first | omega | (simp; done) | (simp; omega) | (dsimp only; omega)) _)))) hb1; rw [b1])
    go_ret2
    exact ⟨rfl, HB1.out⟩
  have OK := Lib.hid (worksB_true.1 b1)
  have hp : pFewestActs m = (if 0 ≤ goalD m 0 then goalD m 0 else 0, decide (0 ≤ goalD m 0)) := by simp [pFewestActs, b1]
  rw [hp]
  obtain ⟨rv, hrv⟩ : ∃ rv, rv = goalD m 0 := ⟨_, rfl⟩
  rw [← hrv]
  obtain ⟨rr, hrr⟩ : ∃ rr : Int, rr = if 0 ≤ rv then rv else 0 := ⟨_, rfl⟩
  obtain ⟨bb, hbb⟩ : ∃ bb : Bool, bb = decide (0 ≤ rv) := ⟨_, rfl⟩
  rw [← hrr, ← hbb]
  have HRR := Lib.hid hrr
  have HBB := Lib.hid hbb
  clear hrr hbb
  obtain ⟨n, hn⟩ : ∃ n, n = m.pulls.length * 64 := ⟨_, rfl⟩
  obtain ⟨E, hE⟩ : ∃ E, E = bfF (nxW m) [((0, 0) : Bn)] := ⟨_, rfl⟩
  have HGG : Hid (lstK (fun s => (gridN n E)[(m.pulls.length - 1) * 64 + s]!) 64 = rv) := by show _ = _; rw [hE, hrv]; exact goal_grid OK.out (by omega) hn
  have hx0 : ((0 : Nat) : Int) < m.size := by have := OK.out.s1; omega
  have HSP : Hid (∀ W, WkAt W (.agg #[.int .i64 m.size, .slice ad m.gates.length cd, .slice ak m.pulls.length ck]) m → Calls Try.prog 65 #[(.agg #[.int .i64 m.size, .slice ad m.gates.length cd, .slice ak m.pulls.length ck]), .int .i64 0, .int .i64 0, .bool false] W fun e w' => ∃ a c, e = .returned (.slice (some ⟨a, 0, none⟩) n c) ∧ IC w' (some ⟨a, 0, none⟩) (gridN n E) ∧ Below W.heap.size W w') := by
    intro W hW
    have := l8Spread_c m ad ak cd ck 0 0 n W hW OK.out hx0 (by omega) hn
    rw [show 0 * 64 + 0 = 0 from rfl, ← hE] at this
    exact this
  have HN := Lib.hid hn
  clear hp hrv hn hE hx0
  go_enter Try.func19, Try.ntmps19
  go_upto_region 3 with (go_at_call 72; refine (l8Works_c _ m _ (hm.later (by (repeat (first | exact Below.refl _ _ | apply Below.drew | apply below_drewN | (refine Below.setCell ?_ (by first | omega | (simp; done) | (simp; omega) | (dsimp only; omega)) _) | (refine Below.alloc ?_ (by first | omega | (simp; done) | (simp; omega) | (dsimp only; omega)) _)))))).mono ?_; rintro e w1 ⟨rfl, hb1⟩; have HB1 : Hid (Below w.heap.size w w1) := below_then (by (repeat (first | exact Below.refl _ _ | apply Below.drew | apply below_drewN | (refine Below.setCell ?_ (by first | omega | (simp; done) | (simp; omega) | (dsimp only; omega)) _) | (refine Below.alloc ?_ (by first | omega | (simp; done) | (simp; omega) | (dsimp only; omega)) _)))) hb1; have HX1 : Hid (Below (w.heap.size + 1) (w.alloc (.cells #[.int .i64 m.size, .slice ad m.gates.length cd, .slice ak m.pulls.length ck] 29)) w1) := hb1.mono (by simp); clear hb1; rw [b1])
  have HS2 : Hid (∀ W, Below w1.heap.size w1 W → W.cell? ⟨w.heap.size, 0, none⟩ = some (.int .i64 m.size) ∧ W.cell? ⟨w.heap.size, 1, none⟩ = some (.slice ad m.gates.length cd) ∧ W.cell? ⟨w.heap.size, 2, none⟩ = some (.slice ak m.pulls.length ck)) := fun W hW => by
    obtain ⟨q0, q1, q2, z1⟩ := box3W (HX1.out.trans (hW.mono (by have := HX1.out.size; simp at this; omega))) (by omega)
    exact ⟨q0, q1, q2⟩
  go_region_held3 (fun W => W.cell? ⟨w.heap.size, 0, none⟩ = some (.int .i64 m.size) ∧ W.cell? ⟨w.heap.size, 1, none⟩ = some (.slice ad m.gates.length cd) ∧ W.cell? ⟨w.heap.size, 2, none⟩ = some (.slice ak m.pulls.length ck))
    (exact HS2.out _ (by repeat (first | exact Below.refl _ _ | exact HB4.out | exact HB3.out | exact HB2.out | apply Below.drew | apply below_drewN | (refine Below.setCell ?_ (by first | omega | (simp; done) | (simp; omega) | (dsimp only; omega)) _) | (refine Below.alloc ?_ (by first | omega | (simp; done) | (simp; omega) | (dsimp only; omega)) _))))
    (first
      | (go_at_call 65; refine (HSP.out _ (hm.later (HB1.out.trans (Below.mono (B := w1.heap.size) (by repeat (first | exact Below.refl _ _ | apply Below.drew | apply below_drewN | (refine Below.setCell ?_ (by first | omega | (simp; done) | (simp; omega) | (dsimp only; omega)) _) | (refine Below.alloc ?_ (by first | omega | (simp; done) | (simp; omega) | (dsimp only; omega)) _))) HB1.out.size)))).mono ?_; rintro e w2 ⟨a2, c2, rfl, hi2, hb2⟩; have HI2 := Lib.hid hi2; have HB2 : Hid (Below w1.heap.size w1 w2) := Below.trans (by repeat (first | exact Below.refl _ _ | apply Below.drew | apply below_drewN | (refine Below.setCell ?_ (by first | omega | (simp; done) | (simp; omega) | (dsimp only; omega)) _) | (refine Below.alloc ?_ (by first | omega | (simp; done) | (simp; omega) | (dsimp only; omega)) _))) (hb2.mono (by first | exact Nat.le_refl _ | (simp; done) | (simp; omega))); clear hi2 hb2)
      | (go_at_call 74; refine (l8Goal_c m ad ak cd ck n _ _ (gridN n E) rv HGG.out _ OK.out HN.out (gridN_len _ _).symm (HI2.out.later (by (repeat (first | exact Below.refl _ _ | apply Below.drew | apply below_drewN | (refine Below.setCell ?_ (by first | omega | (simp; done) | (simp; omega) | (dsimp only; omega)) _) | (refine Below.alloc ?_ (by first | omega | (simp; done) | (simp; omega) | (dsimp only; omega)) _)))))).mono ?_; rintro e w3 ⟨rfl, hb3⟩; have HB3 : Hid (Below w1.heap.size w1 w3) := Below.trans (by repeat (first | exact Below.refl _ _ | exact HB2.out | apply Below.drew | apply below_drewN | (refine Below.setCell ?_ (by first | omega | (simp; done) | (simp; omega) | (dsimp only; omega)) _) | (refine Below.alloc ?_ (by first | omega | (simp; done) | (simp; omega) | (dsimp only; omega)) _))) (hb3.mono (by have := HB2.out.size; first | omega | (simp; omega))); clear hb3)
      | (go_at_call 73; refine (l4Told_c rv rr bb HRR.out HBB.out _).mono ?_; rintro e w4 ⟨rfl, rfl⟩))
  all_goals
    go_wp2
    go_ret2
    exact ⟨rfl, HB1.out.trans (HB3.out.mono HB1.out.size)⟩
end Go.Proofs.Ytkhackdbnmcffaa
