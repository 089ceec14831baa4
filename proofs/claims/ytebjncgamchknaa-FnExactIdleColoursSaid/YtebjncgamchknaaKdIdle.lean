/- Idle colours. -/
import Derived.Test.YtebjncgamchknaaKdLw
set_option linter.unusedVariables false
set_option linter.unusedSimpArgs false
namespace Go.KD
open Go.RowKit
theorem idle_step {L : List Nat} {k : Nat} (h : k < L.length) : idleN L (k + 1) = andn (idleN L k) L[k]! := by
  unfold idleN
  rw [take_snoc h, List.foldl_append]; rfl
theorem idle_lt {L : List Nat} : ∀ k, k ≤ L.length → idleN L k < 64
  | 0, _ => by simp [idleN]
  | k + 1, h => by
    have ih := idle_lt k (by omega : k ≤ L.length)
    rw [idle_step (by omega)]
    refine lt_of_bits (n := 6) fun i hi => ?_
    have : (idleN L k).testBit i = true := by rw [andn_bit] at hi; simp at hi; exact hi.1
    exact bit_lt (n := 6) ih this
end Go.KD
namespace Go.Proofs.Ytebjncgamchknaa
open Go.RowKit Go.KD
attribute [local go_sem] later_cell later_frozen
set_option maxRecDepth 100000 in
set_option maxHeartbeats 2000000 in
theorem implIdleColours_c (v : Value) (m : Mz) (w : World) (hm : MzAt w v m) : Calls Try.prog 36 #[v] w fun e w' => e = .returned (.tuple #[.int .i64 (pIdleColours m).1, .bool (pIdleColours m).2]) ∧ Below w.heap.size w w' := by
  have hM := hm
  obtain ⟨⟨ad, cd, ak, ck, rfl, hd, hk'⟩, nd, nk⟩ := hM
  cases b1 : mazeB m
  · have H : Hid (pIdleColours m = (0, false)) := by show _ = _; simp [pIdleColours, b1]
    go_enter Try.func36, Try.ntmps36
    go_wp2_with (go_at_call 66; refine (isMaze_c _ m _ (hm.later (by (repeat (first | exact Below.refl _ _ | apply Below.drew | apply below_drewN | (refine Below.setCell ?_ (by first | omega | (simp; done) | (simp; omega) | (dsimp only; omega)) _) | (refine Below.alloc ?_ (by first | omega | (simp; done) | (simp; omega) | (dsimp only; omega)) _)))))).mono ?_; rintro e w1 ⟨rfl, hb1⟩; have HB1 : Hid (Below w.heap.size w w1) := below_then (by (repeat (first | exact Below.refl _ _ | apply Below.drew | apply below_drewN | (refine Below.setCell ?_ (by first | omega | (simp; done) | (simp; omega) | (dsimp only; omega)) _) | (refine Below.alloc ?_ (by first | omega | (simp; done) | (simp; omega) | (dsimp only; omega)) _)))) hb1; simp only [b1])
    go_ret2
    exact ⟨by rw [H.out]; rfl, HB1.out⟩
  · obtain ⟨L, hL⟩ : ∃ L, L = lstL (setWinB m) := ⟨_, rfl⟩
    have H : Hid (pIdleColours m = (((idleN L L.length : Nat) : Int), true)) := by show _ = _; rw [hL]; simp [pIdleColours, b1]
    have hlt : Hid (∀ t ∈ L, t < 64) := fun t ht => by rw [hL] at ht; exact lstL_lt ht
    have hll : L.length ≤ 64 := by rw [hL]; exact lstL_len _
    have HL := Lib.hid hL
    clear hL
    have OK := Lib.hid (mazeB_true.1 b1)
    have hlen := thoseN_len (setWinB m) 64
    go_enter Try.func36, Try.ntmps36
    go_wp2_with (first
      | (go_at_call 66; refine (isMaze_c _ m _ (hm.later (by (repeat (first | exact Below.refl _ _ | apply Below.drew | apply below_drewN | (refine Below.setCell ?_ (by first | omega | (simp; done) | (simp; omega) | (dsimp only; omega)) _) | (refine Below.alloc ?_ (by first | omega | (simp; done) | (simp; omega) | (dsimp only; omega)) _)))))).mono ?_; rintro e w1 ⟨rfl, hb1⟩; obtain ⟨hc1, hf1, hz1⟩ := bcell3 hb1; have HB1 : Hid (Below w.heap.size w w1) := below_then (by (repeat (first | exact Below.refl _ _ | apply Below.drew | apply below_drewN | (refine Below.setCell ?_ (by first | omega | (simp; done) | (simp; omega) | (dsimp only; omega)) _) | (refine Below.alloc ?_ (by first | omega | (simp; done) | (simp; omega) | (dsimp only; omega)) _)))) hb1; simp only [b1])
      | (go_at_call 67; refine (winning_c _ m _ (hm.later HB1.out) OK.out).mono ?_; rintro e w2 ⟨u2, rfl, ho2, hb2⟩; rw [winL_those, natsI_len] at ho2; obtain ⟨a2, c2, rfl⟩ := own_slice ho2; have HI2 : Hid (IC w2 a2 (natsI (thoseN (setWinB m) 64))) := ic_of' (Own.of ho2) (natsI_len _).symm; have HB2 : Hid (Below w.heap.size w w2) := below_then HB1.out hb2; clear ho2 hb2))
    refine (clutter_c _ _ _ (thoseN (setWinB m) 64) _ rfl HI2.out (fun t ht => thoseN_lt ht) (by omega)).mono ?_
    rintro e w3 ⟨u, S, rfl, hp, hs, ho, hb3⟩
    rw [least_eq (wins_mono OK.out) hp hs, ← HL.out] at ho
    obtain ⟨a3, c3, rfl⟩ := own_slice ho
    have hi3 : IC w3 a3 (natsI L) := ic_of' (Own.of ho) (natsI_len _).symm
    have HB3 := Lib.hid (below_then HB2.out hb3)
    clear ho hb3 hp hs HI2
    go_wp2
    go_loop [4, 14] (fun c t => ∃ k : Nat, t = .int .i64 k ∧ k ≤ L.length ∧ c = .int .i64 (idleN L k : Nat)) (fun _ t => L.length - (intOf t).toNat)
    case atStart => exact ⟨0, rfl, by omega, rfl⟩
    case round =>
      obtain ⟨k, rfl, hk, rfl⟩ := hrel
      have hn := idle_lt k hk
      by_cases hs : k < L.length
      · have hsI : (k : Int) < (L.length : Int) := by omega
        obtain ⟨b, off, x, rfl, HX, hbs, e0⟩ := hi3.at k (by rw [natsI_len]; exact hs)
        rw [natsI_at hs] at HX
        have HS := Lib.hid (idle_step hs)
        obtain ⟨i, hi⟩ : ∃ i, i = L[k]! := ⟨_, rfl⟩
        rw [← hi] at HX HS
        obtain rfl : (i : Int) = x := HX.out
        obtain ⟨n, hN⟩ : ∃ n, n = idleN L k := ⟨_, rfl⟩
        rw [← hN] at hn HS ⊢
        clear hN hi HX
        have ea : bits .andNot .i64 (n : Int) (i : Int) = ((andn n i : Nat) : Int) := i64_andNot n i (by omega)
        go_wp2
        go_round
        case rel => exact ⟨k + 1, by go_num, by omega, by rw [HS.out]⟩
        case measure => simp [intOf]; omega
      · obtain rfl : k = L.length := by omega
        go_wp2
        go_ret2
        exact ⟨by rw [H.out]; rfl, HB3.out⟩
set_option maxRecDepth 100000 in
set_option maxHeartbeats 2000000 in
theorem specIdleColours_c (v : Value) (m : Mz) (w : World) (hm : MzAt w v m) : Calls Try.prog 35 #[v] w fun e w' => e = .returned (.tuple #[.int .i64 (pIdleColours m).1, .bool (pIdleColours m).2]) ∧ Below w.heap.size w w' := by
  have hM := hm
  obtain ⟨⟨ad, cd, ak, ck, rfl, hd, hk'⟩, nd, nk⟩ := hM
  cases b1 : mazeB m
  · have H : Hid (pIdleColours m = (0, false)) := by show _ = _; simp [pIdleColours, b1]
    have HP : Hid (pLeastWins m = ([], false)) := by show _ = _; simp [pLeastWins, b1]
    go_enter Try.func35, Try.ntmps35
    go_wp2_with (go_at_call 28; refine (specLeastWins_c _ m _ _ _ HP.out (hm.later (by (repeat (first | exact Below.refl _ _ | apply Below.drew | apply below_drewN | (refine Below.setCell ?_ (by first | omega | (simp; done) | (simp; omega) | (dsimp only; omega)) _) | (refine Below.alloc ?_ (by first | omega | (simp; done) | (simp; omega) | (dsimp only; omega)) _)))))).mono ?_; rintro e w1 ⟨a1, c1, rfl, -, hb1⟩; have HB1 : Hid (Below w.heap.size w w1) := below_then (by (repeat (first | exact Below.refl _ _ | apply Below.drew | apply below_drewN | (refine Below.setCell ?_ (by first | omega | (simp; done) | (simp; omega) | (dsimp only; omega)) _) | (refine Below.alloc ?_ (by first | omega | (simp; done) | (simp; omega) | (dsimp only; omega)) _)))) hb1)
    go_ret2
    exact ⟨by rw [H.out]; rfl, HB1.out⟩
  · obtain ⟨L, hL⟩ : ∃ L, L = lstL (setWinB m) := ⟨_, rfl⟩
    have H : Hid (pIdleColours m = (((idleN L L.length : Nat) : Int), true)) := by show _ = _; rw [hL]; simp [pIdleColours, b1]
    have HP : Hid (pLeastWins m = (natsI L, true)) := by show _ = _; rw [hL]; simp [pLeastWins, b1]
    have hll : L.length ≤ 64 := by rw [hL]; exact lstL_len _
    clear hL
    go_enter Try.func35, Try.ntmps35
    go_wp2_with (go_at_call 28; refine (specLeastWins_c _ m _ _ _ HP.out (hm.later (by (repeat (first | exact Below.refl _ _ | apply Below.drew | apply below_drewN | (refine Below.setCell ?_ (by first | omega | (simp; done) | (simp; omega) | (dsimp only; omega)) _) | (refine Below.alloc ?_ (by first | omega | (simp; done) | (simp; omega) | (dsimp only; omega)) _)))))).mono ?_; rintro e w1 ⟨a1, c1, rfl, hi1, hb1⟩; rw [natsI_len]; have HB1 : Hid (Below w.heap.size w w1) := below_then (by (repeat (first | exact Below.refl _ _ | apply Below.drew | apply below_drewN | (refine Below.setCell ?_ (by first | omega | (simp; done) | (simp; omega) | (dsimp only; omega)) _) | (refine Below.alloc ?_ (by first | omega | (simp; done) | (simp; omega) | (dsimp only; omega)) _)))) hb1)
    go_loop [6, 7] (fun c t => ∃ k : Nat, t = .int .i64 k ∧ k ≤ L.length ∧ c = .int .i64 (idleN L k : Nat)) (fun _ t => L.length - (intOf t).toNat)
    case atStart => exact ⟨0, rfl, by omega, rfl⟩
    case round =>
      obtain ⟨k, rfl, hk, rfl⟩ := hrel
      have hn := idle_lt k hk
      by_cases hs : k < L.length
      · have hsI : (k : Int) < (L.length : Int) := by omega
        obtain ⟨b, off, x, rfl, HX, hbs, e0⟩ := hi1.at k (by rw [natsI_len]; exact hs)
        rw [natsI_at hs] at HX
        have HS := Lib.hid (idle_step hs)
        obtain ⟨i, hi⟩ : ∃ i, i = L[k]! := ⟨_, rfl⟩
        rw [← hi] at HX HS
        obtain rfl : (i : Int) = x := HX.out
        obtain ⟨n, hN⟩ : ∃ n, n = idleN L k := ⟨_, rfl⟩
        rw [← hN] at hn HS ⊢
        clear hN hi HX
        have ea : bits .andNot .i64 (n : Int) (i : Int) = ((andn n i : Nat) : Int) := i64_andNot n i (by omega)
        go_wp2
        go_round
        case rel => exact ⟨k + 1, by go_num, by omega, by rw [HS.out]⟩
        case measure => simp [intOf]; omega
      · obtain rfl : k = L.length := by omega
        go_wp2
        go_ret2
        exact ⟨by rw [H.out]; rfl, HB1.out⟩
end Go.Proofs.Ytebjncgamchknaa
