/- The least sets that win, and that bar; idle colours. -/
import Derived.Test.YtebjncgamchknaaKdClut5
import Derived.Test.YtebjncgamchknaaKdSetsB
import Derived.Test.YtebjncgamchknaaKdWinning
set_option linter.unusedVariables false
set_option linter.unusedSimpArgs false
namespace Go.KD
open Go.RowKit
theorem reach_mono {m1 m2 : Mz} (ok1 : MzOk m1) (ok2 : MzOk m2) (hs : m1.size = m2.size) (hd : m1.doors = m2.doors) {a b : Nat} (h : SubN a b) : SubN (reachN m1 0 a) (reachN m2 0 b) := by
  have h1 : ((0 : Nat) : Int) < m2.size := by have := ok2.s1; omega
  obtain ⟨r1, r2⟩ := reach_gen ok2 b h1 4096 (Nat.le_refl _)
  refine rK_sub (m := m1) (s := a) (C := rK m2 b 0 4096) r1 ?_ 4096
  intro y hy i hi
  refine r2 y hy i ?_
  rw [stN_bit ok1] at hi
  rw [stN_bit ok2]
  have e : opnB m1 y i a = opnB m2 y i a := by unfold opnB; rw [hd]
  rw [e] at hi
  exact opnB_mono h hi
theorem cut_key {m : Mz} {a b : Nat} (h : SubN a b) (k : Nat) : SubN ((cutM m a).keys[k]!.toNat) ((cutM m b).keys[k]!.toNat) := by
  intro i hi
  by_cases hk : k < m.keys.length
  · have e : ∀ s, (cutM m s).keys[k]! = (((m.keys[k]).toNat &&& s : Nat) : Int) := fun s => by
      show (m.keys.map _)[k]! = _
      rw [getElem!_pos _ k (by simpa using hk), List.getElem_map]
    rw [e, Int.toNat_natCast, Nat.testBit_and, Bool.and_eq_true] at *
    exact ⟨hi.1, h i hi.2⟩
  · have e : (cutM m a).keys[k]! = 0 := by
      show (m.keys.map _)[k]! = _
      rw [getElem!_def, List.getElem?_eq_none (by simpa using hk)]; rfl
    rw [e] at hi
    simp at hi
theorem keyN_cut {m : Mz} {a b X Y : Nat} (h : SubN a b) (hX : SubN X Y) : SubN (keyN (cutM m a) X) (keyN (cutM m b) Y) := by
  intro i hi
  unfold keyN at *
  rw [keysL_bit, List.any_eq_true] at *
  obtain ⟨x, hx, hi⟩ := hi
  exact ⟨x, mem_mono hX x hx, cut_key h _ i hi⟩
theorem gK_mono {m : Mz} (ok : MzOk m) {a b : Nat} (h : SubN a b) : ∀ k, SubN (gK (cutM m a) 0 k) (gK (cutM m b) 0 k)
  | 0 => fun _ h => h
  | k + 1 => by
    have ih := gK_mono ok h k
    intro i hi
    have hi : (gK (cutM m a) 0 k ||| keyN (cutM m a) (reachN (cutM m a) 0 (gK (cutM m a) 0 k))).testBit i = true := hi
    show (gK (cutM m b) 0 k ||| keyN (cutM m b) (reachN (cutM m b) 0 (gK (cutM m b) 0 k))).testBit i = true
    rw [Nat.testBit_or, Bool.or_eq_true] at *
    rcases hi with hi | hi
    · exact .inl (ih i hi)
    · exact .inr (keyN_cut h (reach_mono (cutM_ok ok a) (cutM_ok ok b) rfl rfl ih) i hi)
theorem wins_mono {m : Mz} (ok : MzOk m) : ∀ a b, a < 64 → b < 64 → subB a b = true → setWinB m a = true → setWinB m b = true := by
  intro a b _ _ h hw
  exact reach_mono (cutM_ok ok a) (cutM_ok ok b) rfl rfl (gK_mono ok (fun i hi => subB_iff.1 h i hi) 64) _ hw
theorem sub_flip : ∀ a, a < 64 → ∀ b, b < 64 → subB a b = true → subB (63 - b) (63 - a) = true := by decide +kernel
theorem bars_mono {m : Mz} (ok : MzOk m) : ∀ a b, a < 64 → b < 64 → subB a b = true → setBarB m a = true → setBarB m b = true := by
  intro a b ha hb h hw
  unfold setBarB at *
  cases hx : setWinB m (63 - b)
  · rfl
  · have := wins_mono ok (63 - b) (63 - a) (by omega) (by omega) (sub_flip a ha b hb h) hx
    rw [this] at hw; cases hw
theorem least_eq {is : Nat → Bool} (hm : ∀ a b, a < 64 → b < 64 → subB a b = true → is a = true → is b = true) {S : List Nat} (hp : S.Perm (thoseN is 64)) (hs : S.Pairwise (fun a b => keyS a ≤ keyS b)) : clutF S = lstL is := by
  rw [clut_eq hp hs (fun t ht => thoseN_lt ht)]
  exact lstL_congr fun s h => up_those hm h
theorem winL_those (m : Mz) (k : Nat) : winL m k = natsI (thoseN (setWinB m) k) := rfl
noncomputable def pLeastWins (m : Mz) : List Int × Bool := if mazeB m then (natsI (lstL (setWinB m)), true) else ([], false)
noncomputable def pLeastBars (m : Mz) : List Int × Bool := if mazeB m then (natsI (lstL (setBarB m)), true) else ([], false)
def idleN (L : List Nat) (k : Nat) : Nat := (L.take k).foldl andn 63
noncomputable def pIdleColours (m : Mz) : Int × Bool := if mazeB m then ((idleN (lstL (setWinB m)) (lstL (setWinB m)).length : Nat), true) else (0, false)
theorem pLeastWins_len (m : Mz) : (pLeastWins m).1.length ≤ 1000000 := by
  unfold pLeastWins; split
  · have := lstL_len (setWinB m); simp only [natsI_len]; omega
  · simp
theorem pLeastBars_len (m : Mz) : (pLeastBars m).1.length ≤ 1000000 := by
  unfold pLeastBars; split
  · have := lstL_len (setBarB m); simp only [natsI_len]; omega
  · simp
end Go.KD
namespace Go.Proofs.Ytebjncgamchknaa
open Go.RowKit Go.KD
attribute [local go_sem] later_cell later_frozen
set_option maxHeartbeats 1000000 in
theorem implLeastWins_c (v : Value) (m : Mz) (w : World) (R : List Int) (b : Bool) (hp : pLeastWins m = (R, b)) (hm : MzAt w v m) : Calls Try.prog 30 #[v] w fun e w' => ∃ u, e = .returned (.tuple #[u, .bool b]) ∧ w'.ownsRow w.heap.size 3 1 u R.length (ints R) ∧ Below w.heap.size w w' := by
  have hM := hm
  obtain ⟨⟨ad, cd, ak, ck, rfl, hd, hk'⟩, nd, nk⟩ := hM
  cases b1 : mazeB m
  · simp only [pLeastWins, b1] at hp
    cases hp
    go_enter Try.func30, Try.ntmps30
    go_wp2_with (go_at_call 66; refine (isMaze_c _ m _ (hm.later (by (repeat (first | exact Below.refl _ _ | apply Below.drew | apply below_drewN | (refine Below.setCell ?_ (by first | omega | (simp; done) | (simp; omega) | (dsimp only; omega)) _) | (refine Below.alloc ?_ (by first | omega | (simp; done) | (simp; omega) | (dsimp only; omega)) _)))))).mono ?_; rintro e w1 ⟨rfl, hb1⟩; have HB1 : Hid (Below w.heap.size w w1) := below_then (by (repeat (first | exact Below.refl _ _ | apply Below.drew | apply below_drewN | (refine Below.setCell ?_ (by first | omega | (simp; done) | (simp; omega) | (dsimp only; omega)) _) | (refine Below.alloc ?_ (by first | omega | (simp; done) | (simp; omega) | (dsimp only; omega)) _)))) hb1; simp only [b1])
    go_ret2
    exact ⟨_, rfl, ⟨rfl, .inl ⟨rfl, rfl⟩⟩, HB1.out⟩
  · simp only [pLeastWins, b1, if_true, Prod.mk.injEq] at hp
    obtain ⟨rfl, rfl⟩ := hp
    have OK := Lib.hid (mazeB_true.1 b1)
    have hlen := thoseN_len (setWinB m) 64
    go_enter Try.func30, Try.ntmps30
    go_wp2_with (first
      | (go_at_call 66; refine (isMaze_c _ m _ (hm.later (by (repeat (first | exact Below.refl _ _ | apply Below.drew | apply below_drewN | (refine Below.setCell ?_ (by first | omega | (simp; done) | (simp; omega) | (dsimp only; omega)) _) | (refine Below.alloc ?_ (by first | omega | (simp; done) | (simp; omega) | (dsimp only; omega)) _)))))).mono ?_; rintro e w1 ⟨rfl, hb1⟩; obtain ⟨hc1, hf1, hz1⟩ := bcell3 hb1; have HB1 : Hid (Below w.heap.size w w1) := below_then (by (repeat (first | exact Below.refl _ _ | apply Below.drew | apply below_drewN | (refine Below.setCell ?_ (by first | omega | (simp; done) | (simp; omega) | (dsimp only; omega)) _) | (refine Below.alloc ?_ (by first | omega | (simp; done) | (simp; omega) | (dsimp only; omega)) _)))) hb1; simp only [b1])
      | (go_at_call 67; refine (winning_c _ m _ (hm.later HB1.out) OK.out).mono ?_; rintro e w2 ⟨u2, rfl, ho2, hb2⟩; rw [winL_those, natsI_len] at ho2; obtain ⟨a2, c2, rfl⟩ := own_slice ho2; have HI2 : Hid (IC w2 a2 (natsI (thoseN (setWinB m) 64))) := ic_of' (Own.of ho2) (natsI_len _).symm; have HB2 : Hid (Below w.heap.size w w2) := below_then HB1.out hb2; clear ho2 hb2))
    refine (clutter_c _ _ _ (thoseN (setWinB m) 64) _ rfl HI2.out (fun t ht => thoseN_lt ht) (by omega)).mono ?_
    rintro e w3 ⟨u, S, rfl, hp, hs, ho, hb3⟩
    rw [least_eq (wins_mono OK.out) hp hs] at ho
    have HO := Lib.hid ho
    have HB3 := Lib.hid hb3
    clear ho hb3 hp hs
    go_wp2
    go_ret2
    exact ⟨_, rfl, by rw [natsI_len]; exact (Own.mono (Own.of HO.out) HB2.out.size (Nat.le_refl _)).row, below_then HB2.out HB3.out⟩
theorem leastBarsK_c (s g : Nat) (m : Mz) (ad ak : Option Addr) (cd ck : Nat) (w : World) (hm : MzAt w (.agg #[.int .i64 m.size, .slice ad m.doors.length cd, .slice ak m.keys.length ck]) m) (ok : MzOk m) (hs : s < 64) (q0 : w.cell? ⟨g, 0, none⟩ = some (.int .i64 m.size)) (q1 : w.cell? ⟨g, 1, none⟩ = some (.slice ad m.doors.length cd)) (q2 : w.cell? ⟨g, 2, none⟩ = some (.slice ak m.keys.length ck)) :
    Calls Try.prog 72 #[.int .i64 s, .pointer (some ⟨g, 0, none⟩)] w fun e w' => e = .returned (.bool (setBarB m s)) ∧ Below w.heap.size w w' := by
  go_enter Try.func72, Try.ntmps72
  go_wp2_with (go_at_call 73; refine (setBars_c _ m s _ (hm.later (by (repeat (first | exact Below.refl _ _ | apply Below.drew | apply below_drewN | (refine Below.setCell ?_ (by first | omega | (simp; done) | (simp; omega) | (dsimp only; omega)) _) | (refine Below.alloc ?_ (by first | omega | (simp; done) | (simp; omega) | (dsimp only; omega)) _))))) ok hs).mono ?_; rintro e w1 ⟨rfl, hb1⟩)
  go_ret
  exact ⟨rfl, below_then (by (repeat (first | exact Below.refl _ _ | apply Below.drew | apply below_drewN | (refine Below.setCell ?_ (by first | omega | (simp; done) | (simp; omega) | (dsimp only; omega)) _) | (refine Below.alloc ?_ (by first | omega | (simp; done) | (simp; omega) | (dsimp only; omega)) _)))) hb1⟩
set_option maxHeartbeats 1000000 in
theorem implLeastBars_c (v : Value) (m : Mz) (w : World) (R : List Int) (b : Bool) (hp : pLeastBars m = (R, b)) (hm : MzAt w v m) : Calls Try.prog 34 #[v] w fun e w' => ∃ u, e = .returned (.tuple #[u, .bool b]) ∧ w'.ownsRow w.heap.size 3 1 u R.length (ints R) ∧ Below w.heap.size w w' := by
  have hM := hm
  obtain ⟨⟨ad, cd, ak, ck, rfl, hd, hk'⟩, nd, nk⟩ := hM
  cases b1 : mazeB m
  · simp only [pLeastBars, b1] at hp
    cases hp
    go_enter Try.func34, Try.ntmps34
    go_wp2_with (go_at_call 66; refine (isMaze_c _ m _ (hm.later (by (repeat (first | exact Below.refl _ _ | apply Below.drew | apply below_drewN | (refine Below.setCell ?_ (by first | omega | (simp; done) | (simp; omega) | (dsimp only; omega)) _) | (refine Below.alloc ?_ (by first | omega | (simp; done) | (simp; omega) | (dsimp only; omega)) _)))))).mono ?_; rintro e w1 ⟨rfl, hb1⟩; have HB1 : Hid (Below w.heap.size w w1) := below_then (by (repeat (first | exact Below.refl _ _ | apply Below.drew | apply below_drewN | (refine Below.setCell ?_ (by first | omega | (simp; done) | (simp; omega) | (dsimp only; omega)) _) | (refine Below.alloc ?_ (by first | omega | (simp; done) | (simp; omega) | (dsimp only; omega)) _)))) hb1; simp only [b1])
    go_ret2
    exact ⟨_, rfl, ⟨rfl, .inl ⟨rfl, rfl⟩⟩, HB1.out⟩
  · simp only [pLeastBars, b1, if_true, Prod.mk.injEq] at hp
    obtain ⟨rfl, rfl⟩ := hp
    have OK := Lib.hid (mazeB_true.1 b1)
    have hlen := thoseN_len (setBarB m) 64
    go_enter Try.func34, Try.ntmps34
    go_wp2_with (go_at_call 66; refine (isMaze_c _ m _ (hm.later (by (repeat (first | exact Below.refl _ _ | apply Below.drew | apply below_drewN | (refine Below.setCell ?_ (by first | omega | (simp; done) | (simp; omega) | (dsimp only; omega)) _) | (refine Below.alloc ?_ (by first | omega | (simp; done) | (simp; omega) | (dsimp only; omega)) _)))))).mono ?_; rintro e w1 ⟨rfl, hb1⟩; obtain ⟨hc1, hf1, hz1⟩ := bcell3 hb1; have HB1 : Hid (Below w.heap.size w w1) := below_then (by (repeat (first | exact Below.refl _ _ | apply Below.drew | apply below_drewN | (refine Below.setCell ?_ (by first | omega | (simp; done) | (simp; omega) | (dsimp only; omega)) _) | (refine Below.alloc ?_ (by first | omega | (simp; done) | (simp; omega) | (dsimp only; omega)) _)))) hb1; have HC1 : Hid (w1.cell? ⟨w.heap.size, 0, none⟩ = some (.int .i64 m.size) ∧ w1.cell? ⟨w.heap.size, 1, none⟩ = some (.slice ad m.doors.length cd) ∧ w1.cell? ⟨w.heap.size, 2, none⟩ = some (.slice ak m.keys.length ck) ∧ w.heap.size < w1.heap.size) := (by refine ⟨?_, ?_, ?_, ?_⟩ <;> first | (simp [*, go_sem]; done) | (simp at hz1; omega)); simp only [b1])
    obtain ⟨q0, q1, q2, hz⟩ := HC1.out
    refine (thoseG_c 72 Try.f72 Try.func72 (by kernel_rfl) rfl #[.pointer (some ⟨w.heap.size, 0, none⟩)] (setBarB m) _ (fun s hs w' hb' => leastBarsK_c s w.heap.size m ad ak cd ck w' ((hm.later HB1.out).later hb') OK.out hs ((hb'.cell (p := ⟨w.heap.size, 0, none⟩) hz).trans q0) ((hb'.cell (p := ⟨w.heap.size, 1, none⟩) hz).trans q1) ((hb'.cell (p := ⟨w.heap.size, 2, none⟩) hz).trans q2))).mono ?_
    rintro e w2 ⟨u2, rfl, ho2, hb2⟩
    obtain ⟨a2, c2, rfl⟩ := own_slice ho2
    have HI2 : Hid (IC w2 a2 (natsI (thoseN (setBarB m) 64))) := ic_of' (Own.of ho2) (natsI_len _).symm
    have HB2 : Hid (Below w.heap.size w w2) := below_then HB1.out hb2
    clear ho2 hb2
    go_wp2_with fail
    refine (clutter_c _ _ _ (thoseN (setBarB m) 64) _ rfl HI2.out (fun t ht => thoseN_lt ht) (by omega)).mono ?_
    rintro e w3 ⟨u, S, rfl, hp, hs, ho, hb3⟩
    rw [least_eq (bars_mono OK.out) hp hs] at ho
    have HO := Lib.hid ho
    have HB3 := Lib.hid hb3
    clear ho hb3 hp hs
    go_wp2
    go_ret2
    exact ⟨_, rfl, by rw [natsI_len]; exact (Own.mono (Own.of HO.out) HB2.out.size (Nat.le_refl _)).row, below_then HB2.out HB3.out⟩
set_option maxHeartbeats 1000000 in
theorem specLeastWins_c (v : Value) (m : Mz) (w : World) (R : List Int) (b : Bool) (hp : pLeastWins m = (R, b)) (hm : MzAt w v m) : Calls Try.prog 28 #[v] w fun e w' => ∃ aw cw, e = .returned (.tuple #[.slice aw R.length cw, .bool b]) ∧ IC w' aw R ∧ Below w.heap.size w w' := by
  have hM := hm
  obtain ⟨⟨ad, cd, ak, ck, rfl, hd, hk'⟩, nd, nk⟩ := hM
  cases b1 : mazeB m
  · simp only [pLeastWins, b1] at hp
    cases hp
    go_enter Try.func28, Try.ntmps28
    go_wp2_with (go_at_call 63; refine (l2Maze_c _ m _ (hm.later (by (repeat (first | exact Below.refl _ _ | apply Below.drew | apply below_drewN | (refine Below.setCell ?_ (by first | omega | (simp; done) | (simp; omega) | (dsimp only; omega)) _) | (refine Below.alloc ?_ (by first | omega | (simp; done) | (simp; omega) | (dsimp only; omega)) _)))))).mono ?_; rintro e w1 ⟨rfl, hb1⟩; have HB1 : Hid (Below w.heap.size w w1) := below_then (by (repeat (first | exact Below.refl _ _ | apply Below.drew | apply below_drewN | (refine Below.setCell ?_ (by first | omega | (simp; done) | (simp; omega) | (dsimp only; omega)) _) | (refine Below.alloc ?_ (by first | omega | (simp; done) | (simp; omega) | (dsimp only; omega)) _)))) hb1; simp only [b1])
    have HBF := Lib.hid (HB1.out.alloc HB1.out.size (.cells #[] 3))
    go_ret2
    exact ⟨_, _, rfl, fun k hk => by simp at hk, HBF.out⟩
  · simp only [pLeastWins, b1, if_true, Prod.mk.injEq] at hp
    obtain ⟨rfl, rfl⟩ := hp
    have OK := Lib.hid (mazeB_true.1 b1)
    go_enter Try.func28, Try.ntmps28
    go_wp2_with (first
      | (go_at_call 63; refine (l2Maze_c _ m _ (hm.later (by (repeat (first | exact Below.refl _ _ | apply Below.drew | apply below_drewN | (refine Below.setCell ?_ (by first | omega | (simp; done) | (simp; omega) | (dsimp only; omega)) _) | (refine Below.alloc ?_ (by first | omega | (simp; done) | (simp; omega) | (dsimp only; omega)) _)))))).mono ?_; rintro e w1 ⟨rfl, hb1⟩; obtain ⟨hc1, hf1, hz1⟩ := bcell3 hb1; have HB1 : Hid (Below w.heap.size w w1) := below_then (by (repeat (first | exact Below.refl _ _ | apply Below.drew | apply below_drewN | (refine Below.setCell ?_ (by first | omega | (simp; done) | (simp; omega) | (dsimp only; omega)) _) | (refine Below.alloc ?_ (by first | omega | (simp; done) | (simp; omega) | (dsimp only; omega)) _)))) hb1; simp only [b1])
      | (go_at_call 64; refine (l6Wins_c _ m _ (hm.later HB1.out) OK.out).mono ?_; rintro e w2 ⟨u2, rfl, ho2, hb2⟩; obtain ⟨g, cap, rfl, -, -⟩ := ho2.form (by omega); have HG : Hid (∀ k, k < 64 → w2.cell? ⟨g, k, none⟩ = some (.bool (setWinB m k))) := (fun k hk => by rw [own_bool ho2 k hk (by simp), winsK_at hk]); have HGZ : Hid (g < w2.heap.size) := (Own.of ho2).top g rfl; have HB2 : Hid (Below w.heap.size w w2) := below_then HB1.out hb2; clear ho2 hb2))
    refine (l6Least_c g _ (setWinB m) _ HGZ.out HG.out).mono ?_
    rintro e w3 ⟨u3, rfl, ho3, hb3⟩
    obtain ⟨a3, c3, rfl⟩ := own_slice ho3
    have HI3 : Hid (IC w3 a3 (natsI (lstL (setWinB m)))) := ic_of' (Own.of ho3) (natsI_len _).symm
    have HB3 : Hid (Below w.heap.size w w3) := below_then HB2.out hb3
    clear ho3 hb3
    go_wp2
    go_ret2
    exact ⟨_, _, by rw [natsI_len]; rfl, HI3.out, HB3.out⟩
set_option maxHeartbeats 1000000 in
theorem specLeastBars_c (v : Value) (m : Mz) (w : World) (R : List Int) (b : Bool) (hp : pLeastBars m = (R, b)) (hm : MzAt w v m) : Calls Try.prog 33 #[v] w fun e w' => ∃ aw cw, e = .returned (.tuple #[.slice aw R.length cw, .bool b]) ∧ IC w' aw R ∧ Below w.heap.size w w' := by
  have hM := hm
  obtain ⟨⟨ad, cd, ak, ck, rfl, hd, hk'⟩, nd, nk⟩ := hM
  cases b1 : mazeB m
  · simp only [pLeastBars, b1] at hp
    cases hp
    go_enter Try.func33, Try.ntmps33
    go_wp2_with (go_at_call 63; refine (l2Maze_c _ m _ (hm.later (by (repeat (first | exact Below.refl _ _ | apply Below.drew | apply below_drewN | (refine Below.setCell ?_ (by first | omega | (simp; done) | (simp; omega) | (dsimp only; omega)) _) | (refine Below.alloc ?_ (by first | omega | (simp; done) | (simp; omega) | (dsimp only; omega)) _)))))).mono ?_; rintro e w1 ⟨rfl, hb1⟩; have HB1 : Hid (Below w.heap.size w w1) := below_then (by (repeat (first | exact Below.refl _ _ | apply Below.drew | apply below_drewN | (refine Below.setCell ?_ (by first | omega | (simp; done) | (simp; omega) | (dsimp only; omega)) _) | (refine Below.alloc ?_ (by first | omega | (simp; done) | (simp; omega) | (dsimp only; omega)) _)))) hb1; simp only [b1])
    have HBF := Lib.hid (HB1.out.alloc HB1.out.size (.cells #[] 3))
    go_ret2
    exact ⟨_, _, rfl, fun k hk => by simp at hk, HBF.out⟩
  · simp only [pLeastBars, b1, if_true, Prod.mk.injEq] at hp
    obtain ⟨rfl, rfl⟩ := hp
    have OK := Lib.hid (mazeB_true.1 b1)
    go_enter Try.func33, Try.ntmps33
    go_wp2_with (first
      | (go_at_call 63; refine (l2Maze_c _ m _ (hm.later (by (repeat (first | exact Below.refl _ _ | apply Below.drew | apply below_drewN | (refine Below.setCell ?_ (by first | omega | (simp; done) | (simp; omega) | (dsimp only; omega)) _) | (refine Below.alloc ?_ (by first | omega | (simp; done) | (simp; omega) | (dsimp only; omega)) _)))))).mono ?_; rintro e w1 ⟨rfl, hb1⟩; obtain ⟨hc1, hf1, hz1⟩ := bcell3 hb1; have HB1 : Hid (Below w.heap.size w w1) := below_then (by (repeat (first | exact Below.refl _ _ | apply Below.drew | apply below_drewN | (refine Below.setCell ?_ (by first | omega | (simp; done) | (simp; omega) | (dsimp only; omega)) _) | (refine Below.alloc ?_ (by first | omega | (simp; done) | (simp; omega) | (dsimp only; omega)) _)))) hb1; simp only [b1])
      | (go_at_call 70; refine (l6Bars_c _ m _ (hm.later HB1.out) OK.out).mono ?_; rintro e w2 ⟨u2, rfl, ho2, hb2⟩; obtain ⟨g, cap, rfl, -, -⟩ := ho2.form (by omega); have HG : Hid (∀ k, k < 64 → w2.cell? ⟨g, k, none⟩ = some (.bool (setBarB m k))) := (fun k hk => by rw [own_bool ho2 k hk (by simp), barsK_at hk]); have HGZ : Hid (g < w2.heap.size) := (Own.of ho2).top g rfl; have HB2 : Hid (Below w.heap.size w w2) := below_then HB1.out hb2; clear ho2 hb2))
    refine (l6Least_c g _ (setBarB m) _ HGZ.out HG.out).mono ?_
    rintro e w3 ⟨u3, rfl, ho3, hb3⟩
    obtain ⟨a3, c3, rfl⟩ := own_slice ho3
    have HI3 : Hid (IC w3 a3 (natsI (lstL (setBarB m)))) := ic_of' (Own.of ho3) (natsI_len _).symm
    have HB3 : Hid (Below w.heap.size w w3) := below_then HB2.out hb3
    clear ho3 hb3
    go_wp2
    go_ret2
    exact ⟨_, _, by rw [natsI_len]; rfl, HI3.out, HB3.out⟩
end Go.Proofs.Ytebjncgamchknaa
