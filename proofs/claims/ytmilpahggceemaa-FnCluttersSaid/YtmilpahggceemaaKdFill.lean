/- Contracts of asked, isNode, isFilling and of the reference's l9Ask, l9Filling. -/
import Derived.Test.YtmilpahggceemaaKdValidB
import Derived.Test.YtmilpahggceemaaKdValidD
import Derived.Test.YtmilpahggceemaaKdList
set_option linter.unusedVariables false
set_option linter.unusedSimpArgs false
namespace Go.KD
def nodesB (m : Mz) (l : List Int) : Bool := !anyP (fun x => !inB x 0 (m.size - 1)) l
def fillB (m : Mz) (set : Int) (f : List Int) : Bool := decide ((f.length : Int) = popc set.toNat) && nodesB m f
noncomputable def askB (m : Mz) (set : Int) : Bool := mazeB m && setB set
noncomputable def pIsFilling (m : Mz) (set : Int) (f : List Int) : Bool × Bool := if askB m set then (fillB m set f, true) else (false, false)
theorem mem_len : ∀ x, x < 64 → (mem x).length = popN x := by decide +kernel
theorem nodesB_no {m : Mz} {l : List Int} {k : Nat} (hk : k < l.length) (h : inB l[k]! 0 (m.size - 1) = false) : nodesB m l = false := by
  unfold nodesB anyP
  simp only [Bool.not_eq_false', List.any_eq_true]
  exact ⟨l[k], List.getElem_mem hk, by rw [getElem!_pos l k hk] at h; simp [h]⟩
theorem nodesB_yes {m : Mz} {l : List Int} (h : ∀ k, k < l.length → inB l[k]! 0 (m.size - 1) = true) : nodesB m l = true := by
  unfold nodesB anyP
  simp only [Bool.not_eq_true', List.any_eq_false]
  intro x hx
  obtain ⟨j, hj, rfl⟩ := List.mem_iff_getElem.1 hx
  have := h j hj
  rw [getElem!_pos l j hj] at this
  simp [this]
end Go.KD
namespace Go.Proofs.Ytmilpahggceemaa
open Go.RowKit Go.KD
attribute [local go_sem] later_cell later_frozen
theorem asked_c (v : Value) (m : Mz) (x : Int) (w : World) (hm : MzAt w v m) : Calls Try.prog 208 #[v, .int .i64 x] w fun e w' => e = .returned (.bool (askB m x)) ∧ Below w.heap.size w w' := by
  have hM := hm
  obtain ⟨⟨ad, cd, ak, ck, rfl, hd, hk'⟩, nd, nk⟩ := hM
  cases b1 : mazeB m
  · have H : Hid (false = askB m x) := by show _ = _; simp [askB, b1]
    go_enter Try.func208, Try.ntmps208
    go_wp2_with (go_at_call 223; refine (isMaze_c _ m _ (hm.later (by (repeat (first | exact Below.refl _ _ | apply Below.drew | apply below_drewN | (refine Below.setCell ?_ (by first | omega | (simp; done) | (simp; omega) | (dsimp only; omega)) _) | (refine Below.alloc ?_ (by first | omega | (simp; done) | (simp; omega) | (dsimp only; omega)) _)))))).mono ?_; rintro e w1 ⟨rfl, hb1⟩)
    go_ret
    exact ⟨ret_bool H.out, below_then (by (repeat (first | exact Below.refl _ _ | apply Below.drew | apply below_drewN | (refine Below.setCell ?_ (by first | omega | (simp; done) | (simp; omega) | (dsimp only; omega)) _) | (refine Below.alloc ?_ (by first | omega | (simp; done) | (simp; omega) | (dsimp only; omega)) _)))) hb1⟩
  · have H : Hid (setB x = askB m x) := by show _ = _; simp [askB, b1]
    go_enter Try.func208, Try.ntmps208
    go_wp2_with (first | (go_at_call 223; refine (isMaze_c _ m _ (hm.later (by (repeat (first | exact Below.refl _ _ | apply Below.drew | apply below_drewN | (refine Below.setCell ?_ (by first | omega | (simp; done) | (simp; omega) | (dsimp only; omega)) _) | (refine Below.alloc ?_ (by first | omega | (simp; done) | (simp; omega) | (dsimp only; omega)) _)))))).mono ?_; rintro e w1 ⟨rfl, hb1⟩) | (go_at_call 137; refine (isSet_c _ _).mono ?_; rintro e w2 ⟨rfl, rfl⟩))
    go_ret
    exact ⟨ret_bool H.out, below_then (by (repeat (first | exact Below.refl _ _ | apply Below.drew | apply below_drewN | (refine Below.setCell ?_ (by first | omega | (simp; done) | (simp; omega) | (dsimp only; omega)) _) | (refine Below.alloc ?_ (by first | omega | (simp; done) | (simp; omega) | (dsimp only; omega)) _)))) hb1⟩
theorem isNodeK_c (x s : Int) (g : Nat) (w : World) (hs : 0 ≤ s) (hs2 : s ≤ 12) (hc : w.cell? ⟨g, 0, none⟩ = some (.int .i64 s)) : Calls Try.prog 300 #[.int .i64 x, .pointer (some ⟨g, 0, none⟩)] w fun e w' => e = .returned (.bool (!inB x 0 (s - 1))) ∧ Below w.heap.size w w' := by
  go_enter Try.func300, Try.ntmps300
  go_wp2_with (go_at_call 145; refine (within_c _ _ _ _).mono ?_; rintro e w1 ⟨rfl, rfl⟩)
  go_ret
  exact ⟨ret_bool rfl, Below.refl _ _⟩
theorem isNode_c (v : Value) (m : Mz) (a : Option Addr) (cap n : Nat) (l : List Int) (w : World) (hm : MzAt w v m) (hn : n = l.length) (hA : IC w a l) (hl : n ≤ 1048576) : Calls Try.prog 232 #[v, .slice a n cap] w fun e w' => e = .returned (.bool (mazeB m && nodesB m l)) ∧ Below w.heap.size w w' := by
  have hM := hm
  obtain ⟨⟨ad, cd, ak, ck, rfl, hd, hk'⟩, nd, nk⟩ := hM
  have HN := Lib.hid hn; clear hn
  cases b1 : mazeB m
  · go_enter Try.func232, Try.ntmps232
    go_wp2_with (go_at_call 223; refine (isMaze_c _ m _ (hm.later (by (repeat (first | exact Below.refl _ _ | apply Below.drew | apply below_drewN | (refine Below.setCell ?_ (by first | omega | (simp; done) | (simp; omega) | (dsimp only; omega)) _) | (refine Below.alloc ?_ (by first | omega | (simp; done) | (simp; omega) | (dsimp only; omega)) _)))))).mono ?_; rintro e w1 ⟨rfl, hb1⟩)
    go_ret
    exact ⟨ret_bool (by simp), below_then (by (repeat (first | exact Below.refl _ _ | apply Below.drew | apply below_drewN | (refine Below.setCell ?_ (by first | omega | (simp; done) | (simp; omega) | (dsimp only; omega)) _) | (refine Below.alloc ?_ (by first | omega | (simp; done) | (simp; omega) | (dsimp only; omega)) _)))) hb1⟩
  · have ok := mazeB_true.1 b1
    have s1 := ok.s1; have s2 := ok.s2
    clear ok
    go_enter Try.func232, Try.ntmps232
    go_wp2_with fail
    refine (isMaze_c _ m _ (hm.later (by (repeat (first | exact Below.refl _ _ | apply Below.drew | apply below_drewN | (refine Below.setCell ?_ (by first | omega | (simp; done) | (simp; omega) | (dsimp only; omega)) _) | (refine Below.alloc ?_ (by first | omega | (simp; done) | (simp; omega) | (dsimp only; omega)) _)))))).mono ?_
    rintro e w1 ⟨rfl, hb1⟩
    have HB1 : Hid (Below w.heap.size w w1) := below_then (by (repeat (first | exact Below.refl _ _ | apply Below.drew | apply below_drewN | (refine Below.setCell ?_ (by first | omega | (simp; done) | (simp; omega) | (dsimp only; omega)) _) | (refine Below.alloc ?_ (by first | omega | (simp; done) | (simp; omega) | (dsimp only; omega)) _)))) hb1
    have hz1 := hb1.size
    simp only [World.size_alloc] at hz1
    have q0 : w1.cell? ⟨w.heap.size, 0, none⟩ = some (.int .i64 m.size) := by rw [hb1.cell (p := ⟨w.heap.size, 0, none⟩) (by simp)]; simp [go_sem]
    rw [b1]
    clear hb1
    go_wp2_with fail
    refine (containsFunc_c 300 Try.f300 Try.func300 (by kernel_rfl) (by kernel_rfl) #[.pointer (some ⟨w.heap.size, 0, none⟩)] (fun x => !inB x 0 (m.size - 1)) _ _ _ l _ HN.out (hA.later HB1.out) hl (fun j x _ _ w2 hb2 => isNodeK_c x m.size w.heap.size w2 (by omega) s2 ((hb2.cell (p := ⟨w.heap.size, 0, none⟩) (by show w.heap.size < _; omega)).trans q0))).mono ?_
    rintro e w2 ⟨rfl, hb2⟩
    go_wp2_with fail
    go_ret
    exact ⟨ret_bool (by simp [nodesB]), below_then HB1.out hb2⟩
