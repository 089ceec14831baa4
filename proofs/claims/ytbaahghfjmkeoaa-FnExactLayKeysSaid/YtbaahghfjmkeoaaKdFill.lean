/- Contracts of asked, isNode, isFilling and of the reference's l9Ask, l9Filling. -/
import Derived.Test.YtbaahghfjmkeoaaKdValidB
import Derived.Test.YtbaahghfjmkeoaaKdValidD
import Derived.Test.YtbaahghfjmkeoaaKdList
set_option linter.unusedVariables false
set_option linter.unusedSimpArgs false
namespace Go.KD
def nodesB (m : Mz) (l : List Int) : Bool := !anyP (fun x => !inB x 0 (m.size - 1)) l
def fillB (m : Mz) (set : Int) (f : List Int) : Bool := decide ((f.length : Int) = popc set.toNat) && nodesB m f
noncomputable def askB (m : Mz) (set : Int) : Bool := mazeB m && setB set
noncomputable def pIsFilling (m : Mz) (set : Int) (f : List Int) : Bool × Bool := if askB m set then (fillB m set f, true) else (false, false)
theorem mem_len : ∀ x, x < 64 → (mem x).length = popN x := by decide +kernel
theorem nodesB_no {m : Mz} {l : List Int} {k : Nat} (hk : k < l.length) (h : inB l[k]! 0 (m.size - 1) = false) : nodesB m l = false := by
  unfold nodesB anyP
  simp only [Bool.not_eq_false', List.any_eq_true]
  exact ⟨l[k], List.getElem_mem hk, by rw [getElem!_pos l k hk] at h; simp [h]⟩
theorem nodesB_yes {m : Mz} {l : List Int} (h : ∀ k, k < l.length → inB l[k]! 0 (m.size - 1) = true) : nodesB m l = true := by
  unfold nodesB anyP
  simp only [Bool.not_eq_true', List.any_eq_false]
  intro x hx
  obtain ⟨j, hj, rfl⟩ := List.mem_iff_getElem.1 hx
  have := h j hj
  rw [getElem!_pos l j hj] at this
  simp [this]
end Go.KD
namespace Go.Proofs.Ytbaahghfjmkeoaa
open Go.RowKit Go.KD
attribute [local go_sem] later_cell later_frozen
theorem asked_c (v : Value) (m : Mz) (x : Int) (w : World) (hm : MzAt w v m) : Calls Try.prog 71 #[v, .int .i64 x] w fun e w' => e = .returned (.bool (askB m x)) ∧ Below w.heap.size w w' := by
  have hM := hm
  obtain ⟨⟨ad, cd, ak, ck, rfl, hd, hk'⟩, nd, nk⟩ := hM
  cases b1 : mazeB m
  · have H : Hid (false = askB m x) := by show _ = _; simp [askB, b1]
    go_enter Try.func71, Try.ntmps71
    go_wp2_with (go_at_call 109; refine (isMaze_c _ m _ (hm.later (by (repeat (first | exact Below.refl _ _ | apply Below.drew | apply below_drewN | (refine Below.setCell ?_ (by first | omega | (simp; done) | (simp; omega) | (dsimp only; omega)) _) | (refine Below.alloc ?_ (by first | omega | (simp; done) | (simp; omega) | (dsimp only; omega)) _)))))).mono ?_; rintro e w1 ⟨rfl, hb1⟩)
    go_ret
    exact ⟨ret_bool H.out, below_then (by (repeat (first | exact Below.refl _ _ | apply Below.drew | apply below_drewN | (refine Below.setCell ?_ (by first | omega | (simp; done) | (simp; omega) | (dsimp only; omega)) _) | (refine Below.alloc ?_ (by first | omega | (simp; done) | (simp; omega) | (dsimp only; omega)) _)))) hb1⟩
  · have H : Hid (setB x = askB m x) := by show _ = _; simp [askB, b1]
    go_enter Try.func71, Try.ntmps71
    go_wp2_with (first | (go_at_call 109; refine (isMaze_c _ m _ (hm.later (by (repeat (first | exact Below.refl _ _ | apply Below.drew | apply below_drewN | (refine Below.setCell ?_ (by first | omega | (simp; done) | (simp; omega) | (dsimp only; omega)) _) | (refine Below.alloc ?_ (by first | omega | (simp; done) | (simp; omega) | (dsimp only; omega)) _)))))).mono ?_; rintro e w1 ⟨rfl, hb1⟩) | (go_at_call 110; refine (isSet_c _ _).mono ?_; rintro e w2 ⟨rfl, rfl⟩))
    go_ret
    exact ⟨ret_bool H.out, below_then (by (repeat (first | exact Below.refl _ _ | apply Below.drew | apply below_drewN | (refine Below.setCell ?_ (by first | omega | (simp; done) | (simp; omega) | (dsimp only; omega)) _) | (refine Below.alloc ?_ (by first | omega | (simp; done) | (simp; omega) | (dsimp only; omega)) _)))) hb1⟩
theorem l9Ask_c (v : Value) (m : Mz) (x : Int) (w : World) (hm : MzAt w v m) : Calls Try.prog 106 #[v, .int .i64 x] w fun e w' => e = .returned (.bool (askB m x)) ∧ Below w.heap.size w w' := by
  have hM := hm
  obtain ⟨⟨ad, cd, ak, ck, rfl, hd, hk'⟩, nd, nk⟩ := hM
  cases b1 : mazeB m
  · have H : Hid (false = askB m x) := by show _ = _; simp [askB, b1]
    go_enter Try.func106, Try.ntmps106
    go_wp2_with (go_at_call 114; refine (l2Maze_c _ m _ (hm.later (by (repeat (first | exact Below.refl _ _ | apply Below.drew | apply below_drewN | (refine Below.setCell ?_ (by first | omega | (simp; done) | (simp; omega) | (dsimp only; omega)) _) | (refine Below.alloc ?_ (by first | omega | (simp; done) | (simp; omega) | (dsimp only; omega)) _)))))).mono ?_; rintro e w1 ⟨rfl, hb1⟩)
    go_ret
    exact ⟨ret_bool H.out, below_then (by (repeat (first | exact Below.refl _ _ | apply Below.drew | apply below_drewN | (refine Below.setCell ?_ (by first | omega | (simp; done) | (simp; omega) | (dsimp only; omega)) _) | (refine Below.alloc ?_ (by first | omega | (simp; done) | (simp; omega) | (dsimp only; omega)) _)))) hb1⟩
  · have H : Hid (setB x = askB m x) := by show _ = _; simp [askB, b1]
    go_enter Try.func106, Try.ntmps106
    go_wp2_with (first | (go_at_call 114; refine (l2Maze_c _ m _ (hm.later (by (repeat (first | exact Below.refl _ _ | apply Below.drew | apply below_drewN | (refine Below.setCell ?_ (by first | omega | (simp; done) | (simp; omega) | (dsimp only; omega)) _) | (refine Below.alloc ?_ (by first | omega | (simp; done) | (simp; omega) | (dsimp only; omega)) _)))))).mono ?_; rintro e w1 ⟨rfl, hb1⟩) | (go_at_call 125; refine (l2Set_c _ _).mono ?_; rintro e w2 ⟨rfl, rfl⟩))
    go_ret
    exact ⟨ret_bool H.out, below_then (by (repeat (first | exact Below.refl _ _ | apply Below.drew | apply below_drewN | (refine Below.setCell ?_ (by first | omega | (simp; done) | (simp; omega) | (dsimp only; omega)) _) | (refine Below.alloc ?_ (by first | omega | (simp; done) | (simp; omega) | (dsimp only; omega)) _)))) hb1⟩
theorem isNodeK_c (x s : Int) (g : Nat) (w : World) (hs : 0 ≤ s) (hs2 : s ≤ 12) (hc : w.cell? ⟨g, 0, none⟩ = some (.int .i64 s)) : Calls Try.prog 131 #[.int .i64 x, .pointer (some ⟨g, 0, none⟩)] w fun e w' => e = .returned (.bool (!inB x 0 (s - 1))) ∧ Below w.heap.size w w' := by
  go_enter Try.func131, Try.ntmps131
  go_wp2_with (go_at_call 128; refine (within_c _ _ _ _).mono ?_; rintro e w1 ⟨rfl, rfl⟩)
  go_ret
  exact ⟨ret_bool rfl, Below.refl _ _⟩
theorem isNode_c (v : Value) (m : Mz) (a : Option Addr) (cap n : Nat) (l : List Int) (w : World) (hm : MzAt w v m) (hn : n = l.length) (hA : IC w a l) (hl : n ≤ 1048576) : Calls Try.prog 111 #[v, .slice a n cap] w fun e w' => e = .returned (.bool (mazeB m && nodesB m l)) ∧ Below w.heap.size w w' := by
  have hM := hm
  obtain ⟨⟨ad, cd, ak, ck, rfl, hd, hk'⟩, nd, nk⟩ := hM
  have HN := Lib.hid hn; clear hn
  cases b1 : mazeB m
  · go_enter Try.func111, Try.ntmps111
    go_wp2_with (go_at_call 109; refine (isMaze_c _ m _ (hm.later (by (repeat (first | exact Below.refl _ _ | apply Below.drew | apply below_drewN | (refine Below.setCell ?_ (by first | omega | (simp; done) | (simp; omega) | (dsimp only; omega)) _) | (refine Below.alloc ?_ (by first | omega | (simp; done) | (simp; omega) | (dsimp only; omega)) _)))))).mono ?_; rintro e w1 ⟨rfl, hb1⟩)
    go_ret
    exact ⟨ret_bool (by simp), below_then (by (repeat (first | exact Below.refl _ _ | apply Below.drew | apply below_drewN | (refine Below.setCell ?_ (by first | omega | (simp; done) | (simp; omega) | (dsimp only; omega)) _) | (refine Below.alloc ?_ (by first | omega | (simp; done) | (simp; omega) | (dsimp only; omega)) _)))) hb1⟩
  · have ok := mazeB_true.1 b1
    have s1 := ok.s1; have s2 := ok.s2
    clear ok
    go_enter Try.func111, Try.ntmps111
    go_wp2_with fail
    refine (isMaze_c _ m _ (hm.later (by (repeat (first | exact Below.refl _ _ | apply Below.drew | apply below_drewN | (refine Below.setCell ?_ (by first | omega | (simp; done) | (simp; omega) | (dsimp only; omega)) _) | (refine Below.alloc ?_ (by first | omega | (simp; done) | (simp; omega) | (dsimp only; omega)) _)))))).mono ?_
    rintro e w1 ⟨rfl, hb1⟩
    have HB1 : Hid (Below w.heap.size w w1) := below_then (by (repeat (first | exact Below.refl _ _ | apply Below.drew | apply below_drewN | (refine Below.setCell ?_ (by first | omega | (simp; done) | (simp; omega) | (dsimp only; omega)) _) | (refine Below.alloc ?_ (by first | omega | (simp; done) | (simp; omega) | (dsimp only; omega)) _)))) hb1
    have hz1 := hb1.size
    simp only [World.size_alloc] at hz1
    have q0 : w1.cell? ⟨w.heap.size, 0, none⟩ = some (.int .i64 m.size) := by rw [hb1.cell (p := ⟨w.heap.size, 0, none⟩) (by simp)]; simp [go_sem]
    rw [b1]
    clear hb1
    go_wp2_with fail
    refine (containsFunc_c 131 Try.f131 Try.func131 (by kernel_rfl) (by kernel_rfl) #[.pointer (some ⟨w.heap.size, 0, none⟩)] (fun x => !inB x 0 (m.size - 1)) _ _ _ l _ HN.out (hA.later HB1.out) hl (fun j x _ _ w2 hb2 => isNodeK_c x m.size w.heap.size w2 (by omega) s2 ((hb2.cell (p := ⟨w.heap.size, 0, none⟩) (by show w.heap.size < _; omega)).trans q0))).mono ?_
    rintro e w2 ⟨rfl, hb2⟩
    go_wp2_with fail
    go_ret
    exact ⟨ret_bool (by simp [nodesB]), below_then HB1.out hb2⟩
theorem isFilling_c (v : Value) (m : Mz) (x : Int) (a : Option Addr) (cap : Nat) (l : List Int) (w : World) (hm : MzAt w v m) (ha : askB m x = true) (hA : IC w a l) (hl : l.length ≤ 1048576) : Calls Try.prog 72 #[v, .int .i64 x, .slice a l.length cap] w fun e w' => e = .returned (.bool (fillB m x l)) ∧ Below w.heap.size w w' := by
  have hM := hm
  obtain ⟨⟨ad, cd, ak, ck, rfl, hd, hk'⟩, nd, nk⟩ := hM
  simp only [askB, Bool.and_eq_true] at ha
  obtain ⟨b1, b2⟩ := ha
  obtain ⟨x0, x1⟩ := setB_true.1 b2
  obtain ⟨xn, rfl⟩ := Int.eq_ofNat_of_zero_le x0
  have hml := Lib.hid (mem_len xn (by omega))
  have hle := pop_le6 xn (by omega)
  by_cases h1 : l.length = popN xn
  · have hq : ((l.length : Int) == ((mem xn).length : Int)) = true := by have := hml.out; simp; omega
    have H : Hid (nodesB m l = fillB m xn l) := by show _ = _; simp [fillB, popc, h1]
    have H1 := Lib.hid h1; clear h1
    go_enter Try.func72, Try.ntmps72
    go_wp2_with fail
    refine (members_c xn (by omega) _).mono ?_
    rintro e w1 ⟨v1, rfl, ho1, hb1⟩
    obtain ⟨a1, c1, rfl⟩ := own_slice ho1
    have HB1 : Hid (Below w.heap.size w w1) := below_then (by (repeat (first | exact Below.refl _ _ | apply Below.drew | apply below_drewN | (refine Below.setCell ?_ (by first | omega | (simp; done) | (simp; omega) | (dsimp only; omega)) _) | (refine Below.alloc ?_ (by first | omega | (simp; done) | (simp; omega) | (dsimp only; omega)) _)))) hb1
    have q0 : w1.cell? ⟨w.heap.size, 0, none⟩ = some (.int .i64 m.size) := by rw [hb1.cell (p := ⟨w.heap.size, 0, none⟩) (by simp)]; simp [go_sem]
    have q1 : w1.cell? ⟨w.heap.size, 1, none⟩ = some (.slice ad m.doors.length cd) := by rw [hb1.cell (p := ⟨w.heap.size, 1, none⟩) (by simp)]; simp [go_sem]
    have q2 : w1.cell? ⟨w.heap.size, 2, none⟩ = some (.slice ak m.keys.length ck) := by rw [hb1.cell (p := ⟨w.heap.size, 2, none⟩) (by simp)]; simp [go_sem]
    clear hb1 ho1
    go_wp2_with fail
    refine (isNode_c _ m _ _ _ l _ (hm.later HB1.out) rfl (hA.later HB1.out) hl).mono ?_
    rintro e w2 ⟨rfl, hb2⟩
    rw [b1]
    go_wp2_with fail
    go_ret
    exact ⟨ret_bool (by rw [← H.out]), below_then HB1.out hb2⟩
  · have hq : ((l.length : Int) == ((mem xn).length : Int)) = false := by have := hml.out; rw [beq_eq_false_iff_ne]; omega
    have H : Hid (false = fillB m xn l) := by
      have : decide ((l.length : Int) = popc ((xn : Int).toNat)) = false := by rw [decide_eq_false_iff_not]; unfold popc; rw [Int.toNat_natCast]; omega
      show _ = _; unfold fillB; rw [this]; rfl
    clear h1
    go_enter Try.func72, Try.ntmps72
    go_wp2_with fail
    refine (members_c xn (by omega) _).mono ?_
    rintro e w1 ⟨v1, rfl, ho1, hb1⟩
    obtain ⟨a1, c1, rfl⟩ := own_slice ho1
    have HB1 : Hid (Below w.heap.size w w1) := below_then (by (repeat (first | exact Below.refl _ _ | apply Below.drew | apply below_drewN | (refine Below.setCell ?_ (by first | omega | (simp; done) | (simp; omega) | (dsimp only; omega)) _) | (refine Below.alloc ?_ (by first | omega | (simp; done) | (simp; omega) | (dsimp only; omega)) _)))) hb1
    clear hb1 ho1
    go_wp2_with fail
    go_ret
    exact ⟨ret_bool H.out, HB1.out⟩
set_option maxHeartbeats 1000000 in
theorem l9Filling_c (v : Value) (m : Mz) (x : Int) (a : Option Addr) (cap : Nat) (l : List Int) (w : World) (hm : MzAt w v m) (ha : askB m x = true) (hA : IC w a l) (hl : l.length ≤ 1048576) : Calls Try.prog 107 #[v, .int .i64 x, .slice a l.length cap] w fun e w' => e = .returned (.bool (fillB m x l)) ∧ Below w.heap.size w w' := by
  have hM := hm
  obtain ⟨⟨ad, cd, ak, ck, rfl, hd, hk'⟩, nd, nk⟩ := hM
  simp only [askB, Bool.and_eq_true] at ha
  obtain ⟨b1, b2⟩ := ha
  obtain ⟨x0, x1⟩ := setB_true.1 b2
  obtain ⟨xn, rfl⟩ := Int.eq_ofNat_of_zero_le x0
  have ok := mazeB_true.1 b1
  have s1 := ok.s1; have s2 := ok.s2
  clear ok
  go_enter Try.func107, Try.ntmps107
  go_wp2
  go_loopw [7] (fun i wr => ∃ k : Nat, k ≤ l.length ∧ i = .int .i64 k ∧ Below (w.heap.size + 1) (w.alloc (.cells #[.int .i64 m.size, .slice ad m.doors.length cd, .slice ak m.keys.length ck] 29)) wr ∧ Hid (∀ j, j < k → inB l[j]! 0 (m.size - 1) = true)) (fun i _ => l.length - (intOf i).toNat)
  case atStart => exact ⟨0, Nat.zero_le _, rfl, Below.refl _ _, fun j hj => by omega⟩
  case round =>
    obtain ⟨k, hkl, rfl, hb, HK⟩ := hrel
    obtain ⟨hc, hf, hz⟩ := bcell3 hb
    simp only [World.size_alloc] at hz
    have hz1 : w.heap.size < wr.heap.size := by omega
    have HB : Hid (Below w.heap.size w wr) := (by (repeat (first | exact Below.refl _ _ | apply Below.drew | apply below_drewN | (refine Below.setCell ?_ (by first | omega | (simp; done) | (simp; omega) | (dsimp only; omega)) _) | (refine Below.alloc ?_ (by first | omega | (simp; done) | (simp; omega) | (dsimp only; omega)) _))) : Below w.heap.size w (w.alloc _)).trans (hb.mono (by omega))
    by_cases hlt : k < l.length
    · obtain ⟨b, off, y, rfl, HX, hbs, e0⟩ := (hA.later HB.out).at k hlt
      cases p1 : inB y 0 (m.size - 1)
      · go_wp2
        refine wp_region_later (wr.heap.size) (by kernel_rfl) (by kernel_rfl) ?_
        repeat (first | go_big_quiet_skip | (go_big_quiet_want; go_big_quiet_op; (first | go_big_quiet_on | (apply Exists.intro; refine ⟨fun W => ?_, ?_⟩; (first | (go_at_call 126; exact Calls.later_same (l1In_c _ _ _ _))); go_big_quiet_on))))
        refine wpQuiet_nil ?_; rintro _ ⟨⟨w9, hb9⟩, rfl⟩; obtain ⟨hc9, hf9, hz9⟩ := bcell3 hb9
        go_wp2
        go_ret
        exact ⟨ret_bool (by unfold fillB; rw [nodesB_no hlt (by rw [HX.out]; exact p1)]; simp), HB.out.trans (hb9.mono (by omega))⟩
      · go_wp2
        refine wp_region_later (wr.heap.size) (by kernel_rfl) (by kernel_rfl) ?_
        repeat (first | go_big_quiet_skip | (go_big_quiet_want; go_big_quiet_op; (first | go_big_quiet_on | (apply Exists.intro; refine ⟨fun W => ?_, ?_⟩; (first | (go_at_call 126; exact Calls.later_same (l1In_c _ _ _ _))); go_big_quiet_on))))
        refine wpQuiet_nil ?_; rintro _ ⟨⟨w9, hb9⟩, rfl⟩; obtain ⟨hc9, hf9, hz9⟩ := bcell3 hb9
        go_wp2
        go_roundw
        case rel => exact ⟨k+1, by omega, by go_num, hb.trans (hb9.mono (by omega)), fun j hj => by
          rcases Nat.lt_or_ge j k with h | h
          · exact HK.out j h
          · obtain rfl : j = k := by omega
            rw [HX.out]; exact p1⟩
        case measure => simp [intOf]; omega
    · go_wp2_with (go_at_call 127; refine (l2Many_c xn (by omega) _).mono ?_; rintro e w1 ⟨rfl, rfl⟩)
      go_ret
      exact ⟨ret_bool (by unfold fillB; rw [nodesB_yes (fun j hj => HK.out j (by omega))]; rw [Bool.eq_iff_iff]; simp), HB.out⟩
