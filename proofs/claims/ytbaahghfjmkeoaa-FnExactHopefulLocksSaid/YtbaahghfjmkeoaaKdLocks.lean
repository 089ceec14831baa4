/- Contracts of the locks of a maze. -/
import Derived.Test.YtbaahghfjmkeoaaKdFill
import Derived.Test.YtbaahghfjmkeoaaKdChg
set_option linter.unusedVariables false
set_option linter.unusedSimpArgs false
namespace Go.KD
open Go.RowKit
def isLock (ds : List D3) (k : Nat) : Bool := decide (ds[k]!.2.2 ≠ 0)
def locksK (ds : List D3) (n : Nat) : List Int := ((List.range n).filter (isLock ds)).map fun (k : Nat) => (k : Int)
def locksI (m : Mz) : List Int := locksK m.doors m.doors.length
noncomputable def goodB (m : Mz) : Bool := mazeB m && decide ((locksI m).length ≤ 10)
noncomputable def pLocksOf (m : Mz) : List Int × Bool := if goodB m then (locksI m, true) else ([], false)
theorem locksK_yes {ds : List D3} {k : Nat} (h : isLock ds k = true) : locksK ds (k + 1) = locksK ds k ++ [(k : Int)] := by simp [locksK, List.range_succ, List.filter_append, h]
theorem locksK_no {ds : List D3} {k : Nat} (h : isLock ds k = false) : locksK ds (k + 1) = locksK ds k := by simp [locksK, List.range_succ, List.filter_append, h]
theorem locksK_len (ds : List D3) (k : Nat) : (locksK ds k).length ≤ k := by
  unfold locksK
  rw [List.length_map]
  exact Nat.le_trans (List.length_filter_le _ _) (by simp)
theorem pLocksOf_len (m : Mz) : (pLocksOf m).1.length ≤ 1000000 := by
  unfold pLocksOf goodB
  split
  · rename_i h; simp only [Bool.and_eq_true, decide_eq_true_eq] at h; simp only; omega
  · simp
end Go.KD
namespace Go.Proofs.Ytbaahghfjmkeoaa
open Go.RowKit Go.KD
attribute [local go_sem] later_cell later_frozen
set_option maxHeartbeats 1000000 in
theorem l7Locks_c (v : Value) (m : Mz) (w : World) (hm : MzAt w v m) : Calls Try.prog 89 #[v] w fun e w' =>
    ∃ u, e = .returned u ∧ w'.ownsRow w.heap.size 3 1 u (locksI m).length (ints (locksI m)) ∧ Below w.heap.size w w' := by
  obtain ⟨⟨ad, cd, ak, ck, rfl, hd, hk'⟩, nd, nk⟩ := hm
  obtain ⟨i0, ji, jz0, jz1, jz2⟩ := info_parts infoI
  go_enter Try.func89, Try.ntmps89
  go_wp2
  go_loopw [3, 4] (fun v i wr => ∃ k : Nat, k ≤ m.doors.length ∧ i = .int .i64 k ∧ Below (w.heap.size + 1) (w.alloc (.cells #[.int .i64 m.size, .slice ad m.doors.length cd, .slice ak m.keys.length ck] 29)) wr ∧ Hid (wr.ownsRow (w.heap.size + 1) 3 1 v (locksK m.doors k).length (ints (locksK m.doors k)))) (fun _ i _ => m.doors.length - (intOf i).toNat)
  case atStart => exact ⟨0, Nat.zero_le _, rfl, (Below.refl _ _).alloc (by simp) _, by have := World.ownsRow_lit (base := w.heap.size + 1) (e := 3) (size := 1) (w.alloc (.cells #[.int .i64 m.size, .slice ad m.doors.length cd, .slice ak m.keys.length ck] 29)) #[] 0 (by simp) (by unfold maxLen; omega) rfl; simp at this; exact this⟩
  case round =>
    obtain ⟨k, hkl, rfl, hb, HO⟩ := hrel
    obtain ⟨hc, hf, hz⟩ := bcell3 hb
    simp only [World.size_alloc] at hz
    have hz1 : w.heap.size < wr.heap.size := by omega
    have HB : Hid (Below w.heap.size w wr) := (by (repeat (first | exact Below.refl _ _ | apply Below.drew | apply below_drewN | (refine Below.setCell ?_ (by first | omega | (simp; done) | (simp; omega) | (dsimp only; omega)) _) | (refine Below.alloc ?_ (by first | omega | (simp; done) | (simp; omega) | (dsimp only; omega)) _))) : Below w.heap.size w (w.alloc _)).trans (hb.mono (by omega))
    by_cases hlt : k < m.doors.length
    · obtain ⟨b, off, x, y, z, rfl, HX, hbs, e0, e1, e2⟩ := (hd.later HB.out).at k hlt
      have hlen := locksK_len m.doors k
      by_cases hz0 : z = 0
      · have HL : Hid (isLock m.doors k = false) := by show _ = _; unfold isLock; rw [HX.out]; simp [hz0]
        have g : (z != 0) = false := by simp [hz0]
        clear hz0
        go_wp2
        go_roundw
        case rel => exact ⟨k+1, by omega, by go_num, hb, by rw [locksK_no HL.out]; exact HO⟩
        case measure => simp [intOf]; omega
      · have HL : Hid (isLock m.doors k = true) := by show _ = _; unfold isLock; rw [HX.out]; simp [hz0]
        have g : (z != 0) = true := by simpa using hz0
        clear hz0
        obtain ⟨aM, cM, rfl⟩ := own_slice HO.out
        go_wp2_with (at_builtin; refine wpList_append_own _ rfl _ _ 23 rfl (w.heap.size + 1) 3 i0 (.int .i64 0) 1 8 Try.underlying23 ji jz0 jz1 jz2 rfl (by decide) _ _ _ rfl (HO.out.alloc _) ⟨wr.heap.size, 0, none⟩ 1 1 [.int .i64 k] rfl rfl ?_ ?_ ?_ ?_ ?_ ?_; (exact cell_one_new _ _ _); (simp [Value.oneCell']); (unfold maxLen; omega); omega; (simp; omega); intro v' w3 hown' hgrow _)
        go_roundw
        case rel => exact ⟨k+1, by omega, by go_num, (hb.alloc (by omega) _).grown hgrow (by simp; omega) (fun g hg => own_block_lo HO.out hg), by rw [locksK_yes HL.out, ints_snoc, List.length_append]; exact hown'⟩
        case measure => simp [intOf]; omega
    · obtain rfl : k = m.doors.length := by omega
      obtain ⟨aM, cM, rfl⟩ := own_slice HO.out
      go_wp2
      go_ret
      exact ⟨_, rfl, (Own.mono (Own.of HO.out) (by omega) (Nat.le_refl _)).row, HB.out⟩
set_option maxHeartbeats 1000000 in
theorem locks_c (v : Value) (m : Mz) (w : World) (hm : MzAt w v m) : Calls Try.prog 86 #[v] w fun e w' =>
    ∃ u, e = .returned u ∧ w'.ownsRow w.heap.size 3 1 u (locksI m).length (ints (locksI m)) ∧ Below w.heap.size w w' := by
  obtain ⟨⟨ad, cd, ak, ck, rfl, hd, hk'⟩, nd, nk⟩ := hm
  obtain ⟨i0, ji, jz0, jz1, jz2⟩ := info_parts infoI
  go_enter Try.func86, Try.ntmps86
  go_wp2
  go_loopw [3, 10] (fun v i wr => ∃ k : Nat, k ≤ m.doors.length ∧ i = .int .i64 k ∧ Below (w.heap.size + 1) (w.alloc (.cells #[.int .i64 m.size, .slice ad m.doors.length cd, .slice ak m.keys.length ck] 29)) wr ∧ Hid (wr.ownsRow (w.heap.size + 1) 3 1 v (locksK m.doors k).length (ints (locksK m.doors k)))) (fun _ i _ => m.doors.length - (intOf i).toNat)
  case atStart => exact ⟨0, Nat.zero_le _, rfl, (Below.refl _ _).alloc (by simp) _, by have := World.ownsRow_lit (base := w.heap.size + 1) (e := 3) (size := 1) (w.alloc (.cells #[.int .i64 m.size, .slice ad m.doors.length cd, .slice ak m.keys.length ck] 29)) #[] 0 (by simp) (by unfold maxLen; omega) rfl; simp at this; exact this⟩
  case round =>
    obtain ⟨k, hkl, rfl, hb, HO⟩ := hrel
    obtain ⟨hc, hf, hz⟩ := bcell3 hb
    simp only [World.size_alloc] at hz
    have hz1 : w.heap.size < wr.heap.size := by omega
    have HB : Hid (Below w.heap.size w wr) := (by (repeat (first | exact Below.refl _ _ | apply Below.drew | apply below_drewN | (refine Below.setCell ?_ (by first | omega | (simp; done) | (simp; omega) | (dsimp only; omega)) _) | (refine Below.alloc ?_ (by first | omega | (simp; done) | (simp; omega) | (dsimp only; omega)) _))) : Below w.heap.size w (w.alloc _)).trans (hb.mono (by omega))
    by_cases hlt : k < m.doors.length
    · obtain ⟨b, off, x, y, z, rfl, HX, hbs, e0, e1, e2⟩ := (hd.later HB.out).at k hlt
      have hlen := locksK_len m.doors k
      by_cases hz0 : z = 0
      · have HL : Hid (isLock m.doors k = false) := by show _ = _; unfold isLock; rw [HX.out]; simp [hz0]
        have g : (z != 0) = false := by simp [hz0]
        clear hz0
        go_wp2
        go_roundw
        case rel => exact ⟨k+1, by omega, by go_num, hb.alloc (by omega) _, by rw [locksK_no HL.out]; exact HO.out.alloc _⟩
        case measure => simp [intOf]; omega
      · have HL : Hid (isLock m.doors k = true) := by show _ = _; unfold isLock; rw [HX.out]; simp [hz0]
        have g : (z != 0) = true := by simpa using hz0
        clear hz0
        obtain ⟨aM, cM, rfl⟩ := own_slice HO.out
        go_wp2_with (at_builtin; refine wpList_append_own _ rfl _ _ 23 rfl (w.heap.size + 1) 3 i0 (.int .i64 0) 1 8 Try.underlying23 ji jz0 jz1 jz2 rfl (by decide) _ _ _ rfl ((HO.out.alloc _).alloc _) ⟨wr.heap.size + 1, 0, none⟩ 1 1 [.int .i64 k] rfl rfl ?_ ?_ ?_ ?_ ?_ ?_; (intro j u hu; have := cell_one_new (wr.alloc (.cells #[.int .i64 x, .int .i64 y, .int .i64 z] 55)) (.int .i64 k) 3 j u hu; simpa using this); (simp [Value.oneCell']); (unfold maxLen; omega); omega; (simp; omega); intro v' w3 hown' hgrow _)
        go_roundw
        case rel => exact ⟨k+1, by omega, by go_num, ((hb.alloc (by omega) _).alloc (by simp; omega) _).grown hgrow (by simp; omega) (fun g hg => own_block_lo HO.out hg), by rw [locksK_yes HL.out, ints_snoc, List.length_append]; exact hown'⟩
        case measure => simp [intOf]; omega
    · obtain rfl : k = m.doors.length := by omega
      obtain ⟨aM, cM, rfl⟩ := own_slice HO.out
      go_wp2
      go_ret
      exact ⟨_, rfl, (Own.mono (Own.of HO.out) (by omega) (Nat.le_refl _)).row, HB.out⟩
theorem l7Good_c (v : Value) (m : Mz) (w : World) (hm : MzAt w v m) : Calls Try.prog 80 #[v] w fun e w' => e = .returned (.bool (goodB m)) ∧ Below w.heap.size w w' := by
  have hM := hm
  obtain ⟨⟨ad, cd, ak, ck, rfl, hd, hk'⟩, nd, nk⟩ := hM
  cases b1 : mazeB m
  · have H : Hid (false = goodB m) := by show _ = _; simp [goodB, b1]
    go_enter Try.func80, Try.ntmps80
    go_wp2_with (go_at_call 114; refine (l2Maze_c _ m _ (hm.later (by (repeat (first | exact Below.refl _ _ | apply Below.drew | apply below_drewN | (refine Below.setCell ?_ (by first | omega | (simp; done) | (simp; omega) | (dsimp only; omega)) _) | (refine Below.alloc ?_ (by first | omega | (simp; done) | (simp; omega) | (dsimp only; omega)) _)))))).mono ?_; rintro e w1 ⟨rfl, hb1⟩)
    go_ret
    exact ⟨ret_bool H.out, below_then (by (repeat (first | exact Below.refl _ _ | apply Below.drew | apply below_drewN | (refine Below.setCell ?_ (by first | omega | (simp; done) | (simp; omega) | (dsimp only; omega)) _) | (refine Below.alloc ?_ (by first | omega | (simp; done) | (simp; omega) | (dsimp only; omega)) _)))) hb1⟩
  · have H : Hid (decide ((locksI m).length ≤ 10) = goodB m) := by show _ = _; simp [goodB, b1]
    have hl := locksK_len m.doors m.doors.length
    go_enter Try.func80, Try.ntmps80
    go_wp2_with (first | (go_at_call 114; refine (l2Maze_c _ m _ (hm.later (by (repeat (first | exact Below.refl _ _ | apply Below.drew | apply below_drewN | (refine Below.setCell ?_ (by first | omega | (simp; done) | (simp; omega) | (dsimp only; omega)) _) | (refine Below.alloc ?_ (by first | omega | (simp; done) | (simp; omega) | (dsimp only; omega)) _)))))).mono ?_; rintro e w1 ⟨rfl, hb1⟩; obtain ⟨hc1, hf1, hz1⟩ := bcell3 hb1; have HB1 : Hid (Below w.heap.size w w1) := below_then (by (repeat (first | exact Below.refl _ _ | apply Below.drew | apply below_drewN | (refine Below.setCell ?_ (by first | omega | (simp; done) | (simp; omega) | (dsimp only; omega)) _) | (refine Below.alloc ?_ (by first | omega | (simp; done) | (simp; omega) | (dsimp only; omega)) _)))) hb1) | (go_at_call 89; refine (l7Locks_c _ m _ (hm.later HB1.out)).mono ?_; rintro e w2 ⟨u2, rfl, ho2, hb2⟩; obtain ⟨a2, c2, rfl⟩ := own_slice ho2; have HO2 := Lib.hid ho2; clear ho2))
    go_ret
    exact ⟨ret_bool (by rw [← H.out]; rw [Bool.eq_iff_iff]; simp; omega), below_then HB1.out hb2⟩
theorem isSpent_c (v : Value) (m : Mz) (w : World) (hm : MzAt w v m) : Calls Try.prog 77 #[v] w fun e w' => e = .returned (.bool (goodB m)) ∧ Below w.heap.size w w' := by
  have hM := hm
  obtain ⟨⟨ad, cd, ak, ck, rfl, hd, hk'⟩, nd, nk⟩ := hM
  cases b1 : mazeB m
  · have H : Hid (false = goodB m) := by show _ = _; simp [goodB, b1]
    go_enter Try.func77, Try.ntmps77
    go_wp2_with (go_at_call 109; refine (isMaze_c _ m _ (hm.later (by (repeat (first | exact Below.refl _ _ | apply Below.drew | apply below_drewN | (refine Below.setCell ?_ (by first | omega | (simp; done) | (simp; omega) | (dsimp only; omega)) _) | (refine Below.alloc ?_ (by first | omega | (simp; done) | (simp; omega) | (dsimp only; omega)) _)))))).mono ?_; rintro e w1 ⟨rfl, hb1⟩)
    go_ret
    exact ⟨ret_bool H.out, below_then (by (repeat (first | exact Below.refl _ _ | apply Below.drew | apply below_drewN | (refine Below.setCell ?_ (by first | omega | (simp; done) | (simp; omega) | (dsimp only; omega)) _) | (refine Below.alloc ?_ (by first | omega | (simp; done) | (simp; omega) | (dsimp only; omega)) _)))) hb1⟩
  · have H : Hid (decide ((locksI m).length ≤ 10) = goodB m) := by show _ = _; simp [goodB, b1]
    have hl := locksK_len m.doors m.doors.length
    go_enter Try.func77, Try.ntmps77
    go_wp2_with (first | (go_at_call 109; refine (isMaze_c _ m _ (hm.later (by (repeat (first | exact Below.refl _ _ | apply Below.drew | apply below_drewN | (refine Below.setCell ?_ (by first | omega | (simp; done) | (simp; omega) | (dsimp only; omega)) _) | (refine Below.alloc ?_ (by first | omega | (simp; done) | (simp; omega) | (dsimp only; omega)) _)))))).mono ?_; rintro e w1 ⟨rfl, hb1⟩; obtain ⟨hc1, hf1, hz1⟩ := bcell3 hb1; have HB1 : Hid (Below w.heap.size w w1) := below_then (by (repeat (first | exact Below.refl _ _ | apply Below.drew | apply below_drewN | (refine Below.setCell ?_ (by first | omega | (simp; done) | (simp; omega) | (dsimp only; omega)) _) | (refine Below.alloc ?_ (by first | omega | (simp; done) | (simp; omega) | (dsimp only; omega)) _)))) hb1) | (go_at_call 86; refine (locks_c _ m _ (hm.later HB1.out)).mono ?_; rintro e w2 ⟨u2, rfl, ho2, hb2⟩; obtain ⟨a2, c2, rfl⟩ := own_slice ho2; have HO2 := Lib.hid ho2; clear ho2))
    go_ret
    exact ⟨ret_bool (by rw [← H.out]; rw [Bool.eq_iff_iff]; simp; omega), below_then HB1.out hb2⟩
theorem specLocksOf_c (v : Value) (m : Mz) (w : World) (R : List Int) (b : Bool) (hp : pLocksOf m = (R, b)) (hm : MzAt w v m) : Calls Try.prog 47 #[v] w fun e w' => ∃ aw cw, e = .returned (.tuple #[.slice aw R.length cw, .bool b]) ∧ IC w' aw R ∧ Below w.heap.size w w' := by
  have hM := hm
  obtain ⟨⟨ad, cd, ak, ck, rfl, hd, hk'⟩, nd, nk⟩ := hM
  cases b1 : goodB m
  · simp only [pLocksOf, b1] at hp
    cases hp
    go_enter Try.func47, Try.ntmps47
    go_wp2_with (go_at_call 80; refine (l7Good_c _ m _ (hm.later (by (repeat (first | exact Below.refl _ _ | apply Below.drew | apply below_drewN | (refine Below.setCell ?_ (by first | omega | (simp; done) | (simp; omega) | (dsimp only; omega)) _) | (refine Below.alloc ?_ (by first | omega | (simp; done) | (simp; omega) | (dsimp only; omega)) _)))))).mono ?_; rintro e w1 ⟨rfl, hb1⟩; have HB1 : Hid (Below w.heap.size w w1) := below_then (by (repeat (first | exact Below.refl _ _ | apply Below.drew | apply below_drewN | (refine Below.setCell ?_ (by first | omega | (simp; done) | (simp; omega) | (dsimp only; omega)) _) | (refine Below.alloc ?_ (by first | omega | (simp; done) | (simp; omega) | (dsimp only; omega)) _)))) hb1)
    have HBF := Lib.hid (HB1.out.alloc HB1.out.size (.cells #[] 3))
    go_ret2
    exact ⟨_, _, rfl, fun k hk => by simp at hk, HBF.out⟩
  · simp only [pLocksOf, b1, if_true] at hp
    cases hp
    have hl := locksK_len m.doors m.doors.length
    go_enter Try.func47, Try.ntmps47
    go_wp2_with (first | (go_at_call 80; refine (l7Good_c _ m _ (hm.later (by (repeat (first | exact Below.refl _ _ | apply Below.drew | apply below_drewN | (refine Below.setCell ?_ (by first | omega | (simp; done) | (simp; omega) | (dsimp only; omega)) _) | (refine Below.alloc ?_ (by first | omega | (simp; done) | (simp; omega) | (dsimp only; omega)) _)))))).mono ?_; rintro e w1 ⟨rfl, hb1⟩; obtain ⟨hc1, hf1, hz1⟩ := bcell3 hb1; have HB1 : Hid (Below w.heap.size w w1) := below_then (by (repeat (first | exact Below.refl _ _ | apply Below.drew | apply below_drewN | (refine Below.setCell ?_ (by first | omega | (simp; done) | (simp; omega) | (dsimp only; omega)) _) | (refine Below.alloc ?_ (by first | omega | (simp; done) | (simp; omega) | (dsimp only; omega)) _)))) hb1) | (go_at_call 89; refine (l7Locks_c _ m _ (hm.later HB1.out)).mono ?_; rintro e w2 ⟨u2, rfl, ho2, hb2⟩; obtain ⟨a2, c2, rfl⟩ := own_slice ho2; have HO2 := Lib.hid ho2; clear ho2))
    go_ret2
    exact ⟨_, _, rfl, ic_of (Own.of HO2.out), below_then HB1.out hb2⟩
theorem implLocksOf_c (v : Value) (m : Mz) (w : World) (R : List Int) (b : Bool) (hp : pLocksOf m = (R, b)) (hm : MzAt w v m) : Calls Try.prog 33 #[v] w fun e w' => ∃ u, e = .returned (.tuple #[u, .bool b]) ∧ w'.ownsRow w.heap.size 3 1 u R.length (ints R) ∧ Below w.heap.size w w' := by
  have hM := hm
  obtain ⟨⟨ad, cd, ak, ck, rfl, hd, hk'⟩, nd, nk⟩ := hM
  cases b1 : goodB m
  · simp only [pLocksOf, b1] at hp
    cases hp
    go_enter Try.func33, Try.ntmps33
    go_wp2_with (go_at_call 77; refine (isSpent_c _ m _ (hm.later (by (repeat (first | exact Below.refl _ _ | apply Below.drew | apply below_drewN | (refine Below.setCell ?_ (by first | omega | (simp; done) | (simp; omega) | (dsimp only; omega)) _) | (refine Below.alloc ?_ (by first | omega | (simp; done) | (simp; omega) | (dsimp only; omega)) _)))))).mono ?_; rintro e w1 ⟨rfl, hb1⟩; have HB1 : Hid (Below w.heap.size w w1) := below_then (by (repeat (first | exact Below.refl _ _ | apply Below.drew | apply below_drewN | (refine Below.setCell ?_ (by first | omega | (simp; done) | (simp; omega) | (dsimp only; omega)) _) | (refine Below.alloc ?_ (by first | omega | (simp; done) | (simp; omega) | (dsimp only; omega)) _)))) hb1)
    have HBF := HB1
    go_ret2
    exact ⟨_, rfl, ⟨rfl, .inl ⟨rfl, rfl⟩⟩, HBF.out⟩
  · simp only [pLocksOf, b1, if_true] at hp
    cases hp
    have hl := locksK_len m.doors m.doors.length
    go_enter Try.func33, Try.ntmps33
    go_wp2_with (first | (go_at_call 77; refine (isSpent_c _ m _ (hm.later (by (repeat (first | exact Below.refl _ _ | apply Below.drew | apply below_drewN | (refine Below.setCell ?_ (by first | omega | (simp; done) | (simp; omega) | (dsimp only; omega)) _) | (refine Below.alloc ?_ (by first | omega | (simp; done) | (simp; omega) | (dsimp only; omega)) _)))))).mono ?_; rintro e w1 ⟨rfl, hb1⟩; obtain ⟨hc1, hf1, hz1⟩ := bcell3 hb1; have HB1 : Hid (Below w.heap.size w w1) := below_then (by (repeat (first | exact Below.refl _ _ | apply Below.drew | apply below_drewN | (refine Below.setCell ?_ (by first | omega | (simp; done) | (simp; omega) | (dsimp only; omega)) _) | (refine Below.alloc ?_ (by first | omega | (simp; done) | (simp; omega) | (dsimp only; omega)) _)))) hb1) | (go_at_call 86; refine (locks_c _ m _ (hm.later HB1.out)).mono ?_; rintro e w2 ⟨u2, rfl, ho2, hb2⟩; obtain ⟨a2, c2, rfl⟩ := own_slice ho2; have HO2 := Lib.hid ho2; clear ho2))
    go_ret2
    exact ⟨_, rfl, (Own.mono (Own.of HO2.out) HB1.out.size (Nat.le_refl _)).row, below_then HB1.out hb2⟩
end Go.Proofs.Ytbaahghfjmkeoaa
