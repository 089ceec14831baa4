/- Contracts of SetBars. -/
import Derived.Test.YtebjncgamchknaaKdSetsA
set_option linter.unusedVariables false
set_option linter.unusedSimpArgs false
namespace Go.Proofs.Ytebjncgamchknaa
open Go.RowKit Go.KD
attribute [local go_sem] later_cell later_frozen
set_option maxRecDepth 100000 in
set_option maxHeartbeats 4000000 in
theorem l6Bars_c (v : Value) (m : Mz) (w : World) (hm : MzAt w v m) (ok : MzOk m) : Calls Try.prog 70 #[v] w fun e w' =>
    ∃ u, e = .returned u ∧ w'.ownsRow w.heap.size 4 1 u 64 (bools (barsK m 64)) ∧ Below w.heap.size w w' := by
  have hM := hm
  obtain ⟨⟨ad, cd, ak, ck, rfl, hd, hk'⟩, nd, nk⟩ := hM
  obtain ⟨i0, ji, jz0, jz1, jz2⟩ := info_parts infoB
  have OK := Lib.hid ok; clear ok
  go_enter Try.func70, Try.ntmps70
  go_wp2_with fail
  refine (l6Wins_c _ m _ (hm.later (by (repeat (first | exact Below.refl _ _ | apply Below.drew | apply below_drewN | (refine Below.setCell ?_ (by first | omega | (simp; done) | (simp; omega) | (dsimp only; omega)) _) | (refine Below.alloc ?_ (by first | omega | (simp; done) | (simp; omega) | (dsimp only; omega)) _))))) OK.out).mono ?_
  rintro e w1 ⟨u, rfl, ho, hb1⟩
  obtain ⟨g, cap, rfl, -, -⟩ := ho.form (by omega)
  have HB1 : Hid (Below (w.heap.size + 1) (w.alloc (.cells #[.int .i64 m.size, .slice ad m.doors.length cd, .slice ak m.keys.length ck] 37)) w1) := ((Below.refl _ _).alloc (by simp) _).trans (hb1.mono (by simp))
  have HO1 : Hid (w1.ownsRow (w.heap.size + 1) 4 1 (.slice (some ⟨w.heap.size + 1, 0, none⟩) 0 0) 0 (bools (barsK m 0))) := by
    have := World.ownsRow_lit (base := w.heap.size + 1) (e := 4) (size := 1) (w.alloc (.cells #[.int .i64 m.size, .slice ad m.doors.length cd, .slice ak m.keys.length ck] 37)) #[] 0 (by simp) (by unfold maxLen; omega) rfl
    simp at this
    exact own_below this (hb1.mono (by simp))
  have HG : Hid (∀ k, k < 64 → w1.cell? ⟨g, k, none⟩ = some (.bool (setWinB m k))) := fun k hk => by rw [own_bool ho k hk (by simp), winsK_at hk]
  have hgz : g < w1.heap.size := World.block_lt_of_cell? _ _ (HG.out 0 (by omega))
  have hglo : w.heap.size + 1 < g := by have := own_block_lo ho (g := g) rfl; simp at this; omega
  clear hb1 ho
  go_wp2
  go_loopw [3, 5] (fun u t wr => ∃ k go co : Nat, t = .int .i64 k ∧ k ≤ 64 ∧ u = .slice (some ⟨go, 0, none⟩) k co ∧ go ≠ g ∧ Below (w.heap.size + 1) (w.alloc (.cells #[.int .i64 m.size, .slice ad m.doors.length cd, .slice ak m.keys.length ck] 37)) wr ∧ Hid (wr.ownsRow (w.heap.size + 1) 4 1 (.slice (some ⟨go, 0, none⟩) k co) k (bools (barsK m k))) ∧ g < wr.heap.size ∧ Hid (∀ k, k < 64 → wr.cell? ⟨g, k, none⟩ = some (.bool (setWinB m k)))) (fun _ t _ => 64 - (intOf t).toNat)
  case atStart => exact ⟨0, w.heap.size + 1, 0, rfl, by omega, rfl, by omega, HB1.out, HO1.out, hgz, HG⟩
  case round =>
    obtain ⟨wo, rfl⟩ : ∃ wo : World, wo = wr := ⟨_, rfl⟩
    obtain ⟨s, go, co, rfl, hs64, rfl, hne, hb, HO, hgw, HGo⟩ := hrel
    have HBo := Lib.hid hb
    clear hb HO1 HB1
    by_cases hs : s < 64
    · have hsI : (s : Int) < 64 := by omega
      have HSN := Lib.hid (barsK_snoc m s)
      obtain ⟨t, ht⟩ : ∃ t, t = 63 - s := ⟨_, rfl⟩
      have hst : (63 : Int) - (s : Int) = (t : Int) := by omega
      have HT : Hid ((!setWinB m t) = setBarB m s) := by show _ = _; rw [ht]; rfl
      have ht64 : t < 64 := by omega
      have htI : (t : Int) < 64 := by omega
      have e0 := HGo.out t ht64
      have hzo : w.heap.size + 1 ≤ wo.heap.size := by have := HBo.out.size; simpa using this
      clear ht
      go_wp2_with (at_builtin; refine wpList_append_lies _ rfl _ _ 55 rfl (w.heap.size + 1) 4 i0 (.bool false) 1 1 Try.underlying55 ji jz0 jz1 jz2 rfl (by decide) (.slice (some ⟨go, 0, none⟩) s co) _ _ rfl (HO.out.alloc _) ⟨wo.heap.size, 0, none⟩ 1 1 [.bool (!setWinB m t)] rfl rfl ?_ ?_ (by omega) ?_ ?_ ?_ (wo.heap.size + 1) ?_ ?_; (exact cell_one_new _ _ _); (simp [Value.oneCell']); (unfold maxLen; omega); omega; (simp; omega); (simp); intro g5 c5 w5 hown5 hgrow5 hat5 hlt5)
      have hg5 : g5 ≠ g := by
        rcases hat5 with h | h
        · have : go = g5 := by simpa [Value.ownBlock] using h
          omega
        · omega
      go_roundw
      case rel =>
        refine ⟨s + 1, g5, c5, by go_num, by omega, rfl, hg5, (HBo.out.alloc hzo _).grown hgrow5 (by simp; omega) (fun g' hg => own_block_lo HO.out hg), by rw [HSN.out, bools_snoc, ← HT.out]; exact hown5, by have := hgrow5.size; simp at this; omega, fun k hk => ?_⟩
        rw [← HGo.out k hk]
        have h1 : (wo.alloc (.cells #[.bool (!setWinB m t)] 4)).cell? ⟨g, k, none⟩ = wo.cell? ⟨g, k, none⟩ := World.cell?_alloc_lt _ _ _ hgw
        rw [← h1]
        exact World.cell?_of_block (hgrow5.block g (by simp; omega) (fun e => by
          have : go = g := by simpa [Value.ownBlock] using e.symm
          exact hne this))
      case measure => simp [intOf]; omega
    · obtain rfl : s = 64 := by omega
      go_wp2
      go_ret
      exact ⟨_, rfl, (Own.mono (Own.of HO.out) (by omega) (Nat.le_refl _)).row, below_box HBo.out (by omega)⟩
