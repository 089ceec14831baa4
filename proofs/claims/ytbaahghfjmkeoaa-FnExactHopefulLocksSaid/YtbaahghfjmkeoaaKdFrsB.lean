/- What the laws ask of the search: plain words. The program's functions that ask the search. More of the program's functions that ask the search. -/
import Derived.Test.YtbaahghfjmkeoaaKdFrsA
set_option linter.unusedVariables false
set_option linter.unusedSimpArgs false
namespace Go.KD
open Go.RowKit
def srZ (m : Mz) : List En := srF m [(([], 0) : En)]
noncomputable def stuckP (m : Mz) (O : Nat) : Bool := !wonB m O && decide ((nextL m O (mem O)).length = 0)
def allZK (m : Mz) (k : Nat) : Nat := ((locksI m).take k).foldl setN 0
def allZ (m : Mz) : Nat := allZK m (locksI m).length
noncomputable def pCountStates (m : Mz) : Int × Bool := if goodB m then (((srZ m).length : Nat), true) else (0, false)
noncomputable def pAllOpened (m : Mz) : Bool × Bool := if goodB m then ((fstE (srZ m) (fun O => decide ((O : Int) = (allZ m : Int)))).isSome, true) else (false, false)
noncomputable def pFirstWin (m : Mz) : List Int × Bool := if goodB m then ((fstE (srZ m) (wonB m)).getD [], (fstE (srZ m) (wonB m)).isSome) else ([], false)
noncomputable def pFirstStuck (m : Mz) : List Int × Bool := if goodB m then ((fstE (srZ m) (stuckP m)).getD [], (fstE (srZ m) (stuckP m)).isSome) else ([], false)
noncomputable def pIsSafe (m : Mz) : Bool × Bool := if goodB m then (!(fstE (srZ m) (stuckP m)).isSome, true) else (false, false)
theorem srZ_ok (m : Mz) : SrOk m (srZ m) := srE_ok (sr_one m (opn_nil m)) 1024
theorem srZ_le {m : Mz} (hg : goodB m = true) : (srZ m).length ≤ 1024 := (srZ_ok m).le hg
theorem fst_len {m : Mz} (hg : goodB m = true) (p : Nat → Bool) : ((fstE (srZ m) p).getD []).length ≤ 1000000 := by
  unfold fstE
  cases h : (srZ m).find? (fun e => p e.2) with
  | none => simp
  | some e =>
    have := List.mem_of_find?_eq_some h
    have := opn_len (good_ok hg) ((srZ_ok m).all e this)
    simp; omega
theorem pFirstWin_len (m : Mz) : (pFirstWin m).1.length ≤ 1000000 := by
  unfold pFirstWin; split
  · rename_i h; have := fst_len h (wonB m); simp only; omega
  · simp
theorem pFirstStuck_len (m : Mz) : (pFirstStuck m).1.length ≤ 1000000 := by
  unfold pFirstStuck; split
  · rename_i h; have := fst_len h (stuckP m); simp only; omega
  · simp
theorem allZK_step {m : Mz} {k : Nat} (h : k < (locksI m).length) : allZK m (k + 1) = setN (allZK m k) (locksI m)[k]! := by
  unfold allZK
  rw [take_snoc h, List.foldl_append]; rfl
theorem foldl_bit : ∀ (l : List Int) (a j : Nat), (∀ x ∈ l, 0 ≤ x) → ((l.foldl setN a).testBit j = true ↔ a.testBit j = true ∨ (j : Int) ∈ l)
  | [], a, j, _ => by simp
  | x :: l, a, j, h => by
    have hx := h x (by simp)
    rw [List.foldl_cons, foldl_bit l (setN a x) j (fun y hy => h y (by simp [hy])), setN_bit, Bool.or_eq_true, List.mem_cons]
    have : (decide (x.toNat = j) = true) ↔ ((j : Int) = x) := by rw [decide_eq_true_eq]; omega
    rw [this]
    constructor
    · rintro ((h | h) | h)
      · exact .inl h
      · exact .inr (.inl h)
      · exact .inr (.inr h)
    · rintro (h | h | h)
      · exact .inl (.inl h)
      · exact .inl (.inr h)
      · exact .inr h
theorem locks_pos {m : Mz} {x : Int} (h : x ∈ locksI m) : 0 ≤ x := by
  unfold locksI locksK at h
  simp only [List.mem_map] at h
  obtain ⟨a, _, rfl⟩ := h
  omega
theorem allZ_bit {m : Mz} (j : Nat) : (allZ m).testBit j = true ↔ (j : Int) ∈ locksI m := by
  unfold allZ allZK
  rw [List.take_length, foldl_bit _ _ _ (fun x hx => locks_pos hx)]
  simp
theorem allZ_code (m : Mz) : cdO m (allZ m) = 2 ^ (locksI m).length - 1 := by
  apply Nat.eq_of_testBit_eq
  intro i
  unfold cdO cdF
  rw [cdK_bit, Nat.testBit_two_pow_sub_one]
  by_cases hi : i < (locksI m).length
  · obtain ⟨j, hj, hjl⟩ := locks_at hi
    have : (allZ m).testBit ((locksI m)[i]!).toNat = true := by
      rw [allZ_bit, getElem!_pos _ i hi]
      have h0 := locks_pos (List.getElem_mem hi)
      rw [Int.toNat_of_nonneg h0]
      exact List.getElem_mem hi
    simp only [hi, decide_true, Bool.true_and, this]
  · simp [hi]
theorem all_has {m : Mz} (hg : goodB m = true) : hasI (codesE m (srZ m)) (((2 ^ (locksI m).length - 1 : Nat)) : Int) = (fstE (srZ m) (fun O => decide ((O : Int) = (allZ m : Int)))).isSome := by
  have ok := good_ok hg
  have hk : ∀ e ∈ srZ m, ((cdF m (hasI e.1) : Nat) : Int) = ((2 ^ (locksI m).length - 1 : Nat) : Int) ↔ (e.2 : Int) = (allZ m : Int) := by
    intro e he
    have ho := (srZ_ok m).all e he
    rw [cd_set ok (opn_ok ok ho), ← allZ_code]
    constructor
    · intro h
      have h' : cdO m e.2 = cdO m (allZ m) := by exact_mod_cast h
      rw [cdO_inj (opn_bits ok ho) (fun j hj => lock_mem.1 ((allZ_bit j).1 hj)) h']
    · intro h
      have : e.2 = allZ m := by exact_mod_cast h
      rw [this]
  rw [Bool.eq_iff_iff, hasI_iff]
  unfold codesE fstE
  rw [Option.isSome_map, List.find?_isSome]
  simp only [List.mem_map, decide_eq_true_eq]
  constructor
  · rintro ⟨e, he, h⟩; exact ⟨e, he, (hk e he).1 h⟩
  · rintro ⟨e, he, h⟩; exact ⟨e, he, (hk e he).2 h⟩
theorem stuck_at {m : Mz} {O : Nat} {L : List Int} (h : OpOk m O L) : stuckP m O = (!wonB m O && decide ((nextL m O L).length = 0)) := by
  unfold stuckP; rw [nextL_perm h]
end Go.KD
namespace Go.Proofs.Ytbaahghfjmkeoaa
open Go.RowKit Go.KD
attribute [local go_sem] later_cell later_frozen
/-- The search, asked by a function that only reads. -/
theorem first_b (F : FuncId) (fn : Func) (hf1 : Try.prog.funcs[F]? = some fn) (hf2 : (fn.name == "runtime.NumGoroutine") = false) (hf3 : fn.body.isNone = false) (caps : Array Value) (p : Nat → Bool) (v : Value) (m : Mz) (w : World) (hg : goodB m = true) (hm : MzAt w v m)
    (hp : ∀ W O L, Below w.heap.size w W → Opn m L O → Calls Try.prog F (#[.int .i64 (O : Nat)] ++ caps) W fun e W' => e = .returned (.bool (p O)) ∧ Below W.heap.size W W') :
    Calls Try.prog 78 #[v, .func (.func F) #[] caps] w fun e w' =>
    ∃ r, e = .returned (.tuple #[r, .bool (fstE (srZ m) p).isSome]) ∧ w'.ownsRow w.heap.size 3 1 r ((fstE (srZ m) p).getD []).length (ints ((fstE (srZ m) p).getD [])) ∧ Below w.heap.size w w' := by
  refine (first_c F fn hf1 hf2 hf3 caps p (fun _ W => Below w.heap.size w W) v m w hg (Below.refl _ _) (fun i W h => hm.later h) (fun i W W' h h' => h.trans h') (fun i W O h hz ⟨L, hL⟩ => ?_)).mono ?_
  · refine (hp W O L h hL).mono ?_
    rintro e W' ⟨rfl, hb⟩
    exact ⟨rfl, below_then h hb, Chg.of_below hb⟩
  · rintro e w' ⟨r, i, rfl, hJ, -, -, ho⟩
    exact ⟨r, rfl, ho.row, hJ⟩
end Go.Proofs.Ytbaahghfjmkeoaa

namespace Go.Proofs.Ytbaahghfjmkeoaa
open Go.RowKit Go.KD
attribute [local go_sem] later_cell later_frozen
set_option maxHeartbeats 4000000 in
theorem isStuck_c (v : Value) (m : Mz) (O : Nat) (L : List Int) (w : World) (hm : MzAt w v m) (ok : MzOk m) (hop : OpOk m O L) : Calls Try.prog 83 #[v, .int .i64 O] w fun e w' => e = .returned (.bool (stuckP m O)) ∧ Below w.heap.size w w' := by
  have hM := hm
  obtain ⟨⟨ad, cd, ak, ck, rfl, hd, hk'⟩, nd, nk⟩ := hM
  have hng : m.doors.length ≤ 30 := ok.nd
  have hO : O < 1073741824 := bits_lt30 fun i hi => Nat.lt_of_lt_of_le (hop.lt i hi) hng
  have OK := Lib.hid ok
  have HOP := Lib.hid hop
  have HST := Lib.hid (stuck_at hop)
  clear ok hop
  cases hw : wonB m O
  case true =>
    have H : Hid (stuckP m O = false) := by show _ = _; rw [HST.out, hw]; rfl
    go_enter Try.func83, Try.ntmps83
    go_wp2_with (go_at_call 61; refine (isWon_c _ m O _ (hm.later (by (repeat (first | exact Below.refl _ _ | apply Below.drew | apply below_drewN | (refine Below.setCell ?_ (by first | omega | (simp; done) | (simp; omega) | (dsimp only; omega)) _) | (refine Below.alloc ?_ (by first | omega | (simp; done) | (simp; omega) | (dsimp only; omega)) _))))) OK.out hO).mono ?_; rintro e w1 ⟨rfl, hb1⟩; simp only [hw])
    go_ret
    exact ⟨by rw [H.out]; rfl, below_then (by (repeat (first | exact Below.refl _ _ | apply Below.drew | apply below_drewN | (refine Below.setCell ?_ (by first | omega | (simp; done) | (simp; omega) | (dsimp only; omega)) _) | (refine Below.alloc ?_ (by first | omega | (simp; done) | (simp; omega) | (dsimp only; omega)) _)))) hb1⟩
  case false =>
    have H : Hid (stuckP m O = decide ((nextL m O L).length = 0)) := by show _ = _; rw [HST.out, hw]; rfl
    obtain ⟨n, hn⟩ : ∃ n, n = (nextL m O L).length := ⟨_, rfl⟩
    rw [← hn] at H
    have HN := Lib.hid hn
    clear hn HST
    obtain ⟨b, hb⟩ : ∃ b, b = decide (n = 0) := ⟨_, rfl⟩
    have hbI : ((n : Int) == 0) = b := by rw [hb]; by_cases h : n = 0 <;> simp [h]
    have HB := Lib.hid hb
    clear hb
    go_enter Try.func83, Try.ntmps83
    go_wp2_with (first
      | (go_at_call 61; refine (isWon_c _ m O _ (hm.later (by (repeat (first | exact Below.refl _ _ | apply Below.drew | apply below_drewN | (refine Below.setCell ?_ (by first | omega | (simp; done) | (simp; omega) | (dsimp only; omega)) _) | (refine Below.alloc ?_ (by first | omega | (simp; done) | (simp; omega) | (dsimp only; omega)) _))))) OK.out hO).mono ?_; rintro e w1 ⟨rfl, hb1⟩; obtain ⟨hc1, hf1, hz1⟩ := bcell3 hb1; have HB1 : Hid (Below w.heap.size w w1) := below_then (by (repeat (first | exact Below.refl _ _ | apply Below.drew | apply below_drewN | (refine Below.setCell ?_ (by first | omega | (simp; done) | (simp; omega) | (dsimp only; omega)) _) | (refine Below.alloc ?_ (by first | omega | (simp; done) | (simp; omega) | (dsimp only; omega)) _)))) hb1; simp only [hw])
      | (go_at_call 63; refine (nextLocks_c _ m O L _ (hm.later HB1.out) OK.out HOP.out).mono ?_; rintro e w2 ⟨u2, rfl, ho2, hb2⟩; obtain ⟨a2, c2, rfl⟩ := ho2.slice; rw [← HN.out]))
    go_ret
    exact ⟨by rw [H.out, ← HB.out]; rfl, below_then HB1.out hb2⟩
theorem winClo_c (O z cd ck : Nat) (ad ak : Option Addr) (m : Mz) (W : World) (hm : MzAt W (.agg #[.int .i64 m.size, .slice ad m.doors.length cd, .slice ak m.keys.length ck]) m) (ok : MzOk m) (hO : O < 1073741824) (q0 : W.cell? ⟨z, 0, none⟩ = some (.int .i64 m.size)) (q1 : W.cell? ⟨z, 1, none⟩ = some (.slice ad m.doors.length cd)) (q2 : W.cell? ⟨z, 2, none⟩ = some (.slice ak m.keys.length ck)) :
    Calls Try.prog 79 #[.int .i64 O, .pointer (some ⟨z, 0, none⟩)] W fun e W' => e = .returned (.bool (wonB m O)) ∧ Below W.heap.size W W' := by
  go_enter Try.func79, Try.ntmps79
  go_wp2_with (go_at_call 61; refine (isWon_c _ m O _ (hm.later (by (repeat (first | exact Below.refl _ _ | apply Below.drew | apply below_drewN | (refine Below.setCell ?_ (by first | omega | (simp; done) | (simp; omega) | (dsimp only; omega)) _) | (refine Below.alloc ?_ (by first | omega | (simp; done) | (simp; omega) | (dsimp only; omega)) _))))) ok hO).mono ?_; rintro e w1 ⟨rfl, hb1⟩)
  go_ret
  exact ⟨rfl, below_then (by (repeat (first | exact Below.refl _ _ | apply Below.drew | apply below_drewN | (refine Below.setCell ?_ (by first | omega | (simp; done) | (simp; omega) | (dsimp only; omega)) _) | (refine Below.alloc ?_ (by first | omega | (simp; done) | (simp; omega) | (dsimp only; omega)) _)))) hb1⟩
theorem stuckClo_c (O z cd ck : Nat) (L : List Int) (ad ak : Option Addr) (m : Mz) (W : World) (hm : MzAt W (.agg #[.int .i64 m.size, .slice ad m.doors.length cd, .slice ak m.keys.length ck]) m) (ok : MzOk m) (hop : OpOk m O L) (q0 : W.cell? ⟨z, 0, none⟩ = some (.int .i64 m.size)) (q1 : W.cell? ⟨z, 1, none⟩ = some (.slice ad m.doors.length cd)) (q2 : W.cell? ⟨z, 2, none⟩ = some (.slice ak m.keys.length ck)) :
    Calls Try.prog 82 #[.int .i64 O, .pointer (some ⟨z, 0, none⟩)] W fun e W' => e = .returned (.bool (stuckP m O)) ∧ Below W.heap.size W W' := by
  go_enter Try.func82, Try.ntmps82
  go_wp2_with (go_at_call 83; refine (isStuck_c _ m O L _ (hm.later (by (repeat (first | exact Below.refl _ _ | apply Below.drew | apply below_drewN | (refine Below.setCell ?_ (by first | omega | (simp; done) | (simp; omega) | (dsimp only; omega)) _) | (refine Below.alloc ?_ (by first | omega | (simp; done) | (simp; omega) | (dsimp only; omega)) _))))) ok hop).mono ?_; rintro e w1 ⟨rfl, hb1⟩)
  go_ret
  exact ⟨rfl, below_then (by (repeat (first | exact Below.refl _ _ | apply Below.drew | apply below_drewN | (refine Below.setCell ?_ (by first | omega | (simp; done) | (simp; omega) | (dsimp only; omega)) _) | (refine Below.alloc ?_ (by first | omega | (simp; done) | (simp; omega) | (dsimp only; omega)) _)))) hb1⟩
theorem allClo_c (O y z : Nat) (W : World) (q : W.cell? ⟨z, 0, none⟩ = some (.int .i64 (y : Int))) :
    Calls Try.prog 87 #[.int .i64 O, .pointer (some ⟨z, 0, none⟩)] W fun e W' => e = .returned (.bool (decide ((O : Int) = (y : Int)))) ∧ Below W.heap.size W W' := by
  go_enter Try.func87, Try.ntmps87
  go_wp2
  go_ret
  exact ⟨rfl, by (repeat (first | exact Below.refl _ _ | apply Below.drew | apply below_drewN | (refine Below.setCell ?_ (by first | omega | (simp; done) | (simp; omega) | (dsimp only; omega)) _) | (refine Below.alloc ?_ (by first | omega | (simp; done) | (simp; omega) | (dsimp only; omega)) _)))⟩
theorem cntClo_c (O i z : Nat) (W : World) (q : W.cell? ⟨z, 0, none⟩ = some (.int .i64 (wrap64 (i : Int)))) (f : W.frozen? ⟨z, 0, none⟩ = false) :
    Calls Try.prog 85 #[.int .i64 O, .pointer (some ⟨z, 0, none⟩)] W fun e W' => e = .returned (.bool false) ∧ W' = W.setCell ⟨z, 0, none⟩ (.int .i64 (wrap64 ((i + 1 : Nat) : Int))) := by
  have hw : wrap64 (wrap64 (i : Int) + 1) = wrap64 ((i + 1 : Nat) : Int) := by
    unfold wrap64; omega
  go_enter Try.func85, Try.ntmps85
  go_wp2
  go_ret
  exact ⟨rfl, by first | rfl | (simp; done)⟩
theorem implFirstWin_c (v : Value) (m : Mz) (w : World) (R : List Int) (b : Bool) (hp : pFirstWin m = (R, b)) (hm : MzAt w v m) : Calls Try.prog 22 #[v] w fun e w' => ∃ u, e = .returned (.tuple #[u, .bool b]) ∧ w'.ownsRow w.heap.size 3 1 u R.length (ints R) ∧ Below w.heap.size w w' := by
  have hM := hm
  obtain ⟨⟨ad, cd, ak, ck, rfl, hd, hk'⟩, nd, nk⟩ := hM
  cases b1 : goodB m
  · simp only [pFirstWin, b1] at hp
    cases hp
    go_enter Try.func22, Try.ntmps22
    go_wp2_with (go_at_call 77; refine (isSpent_c _ m _ (hm.later (by (repeat (first | exact Below.refl _ _ | apply Below.drew | apply below_drewN | (refine Below.setCell ?_ (by first | omega | (simp; done) | (simp; omega) | (dsimp only; omega)) _) | (refine Below.alloc ?_ (by first | omega | (simp; done) | (simp; omega) | (dsimp only; omega)) _)))))).mono ?_; rintro e w1 ⟨rfl, hb1⟩; have HB1 : Hid (Below w.heap.size w w1) := below_then (by (repeat (first | exact Below.refl _ _ | apply Below.drew | apply below_drewN | (refine Below.setCell ?_ (by first | omega | (simp; done) | (simp; omega) | (dsimp only; omega)) _) | (refine Below.alloc ?_ (by first | omega | (simp; done) | (simp; omega) | (dsimp only; omega)) _)))) hb1)
    have HBF := HB1
    go_ret2
    exact ⟨_, rfl, ⟨rfl, .inl ⟨rfl, rfl⟩⟩, HBF.out⟩
  · simp only [pFirstWin, b1, if_true, Prod.mk.injEq] at hp
    obtain ⟨hR, hb⟩ := hp
    have HR := Lib.hid hR
    have HB := Lib.hid hb
    have HG := Lib.hid b1
    have hng : m.doors.length ≤ 30 := (good_ok b1).nd
    clear hR hb
    go_enter Try.func22, Try.ntmps22
    go_wp2_with (go_at_call 77; refine (isSpent_c _ m _ (hm.later (by (repeat (first | exact Below.refl _ _ | apply Below.drew | apply below_drewN | (refine Below.setCell ?_ (by first | omega | (simp; done) | (simp; omega) | (dsimp only; omega)) _) | (refine Below.alloc ?_ (by first | omega | (simp; done) | (simp; omega) | (dsimp only; omega)) _)))))).mono ?_; rintro e w1 ⟨rfl, hb1⟩; obtain ⟨hc1, hf1, hz1⟩ := bcell3 hb1; have HB1 : Hid (Below w.heap.size w w1) := below_then (by (repeat (first | exact Below.refl _ _ | apply Below.drew | apply below_drewN | (refine Below.setCell ?_ (by first | omega | (simp; done) | (simp; omega) | (dsimp only; omega)) _) | (refine Below.alloc ?_ (by first | omega | (simp; done) | (simp; omega) | (dsimp only; omega)) _)))) hb1; have HC1 : Hid (w1.cell? ⟨w.heap.size, 0, none⟩ = some (.int .i64 m.size) ∧ w1.cell? ⟨w.heap.size, 1, none⟩ = some (.slice ad m.doors.length cd) ∧ w1.cell? ⟨w.heap.size, 2, none⟩ = some (.slice ak m.keys.length ck) ∧ w.heap.size < w1.heap.size) := (by refine ⟨?_, ?_, ?_, ?_⟩ <;> first | (simp [*, go_sem]; done) | (simp at hz1; omega)))
    obtain ⟨q0, q1, q2, hz⟩ := HC1.out
    refine (first_b 79 Try.f79 Try.func79 (by kernel_rfl) rfl #[.pointer (some ⟨w.heap.size, 0, none⟩)] (wonB m) _ m _ HG.out (hm.later HB1.out) (fun W O L hW hO => ?_)).mono ?_
    · exact winClo_c O w.heap.size cd ck ad ak m W ((hm.later HB1.out).later hW) (good_ok HG.out) (bits_lt30 fun i hi => Nat.lt_of_lt_of_le ((opn_ok (good_ok HG.out) hO).lt i hi) hng) ((hW.cell (p := ⟨w.heap.size, 0, none⟩) hz).trans q0) ((hW.cell (p := ⟨w.heap.size, 1, none⟩) hz).trans q1) ((hW.cell (p := ⟨w.heap.size, 2, none⟩) hz).trans q2)
    · rintro e w2 ⟨r, rfl, ho2, hb2⟩
      rw [HR.out, HB.out] at *
      have HO2 := Lib.hid ho2
      have HB2 := Lib.hid hb2
      clear ho2 hb2
      go_wp2
      go_ret2
      exact ⟨_, rfl, (Own.mono (Own.of HO2.out) HB1.out.size (Nat.le_refl _)).row, below_then HB1.out HB2.out⟩
end Go.Proofs.Ytbaahghfjmkeoaa

namespace Go.Proofs.Ytbaahghfjmkeoaa
open Go.RowKit Go.KD
attribute [local go_sem] later_cell later_frozen
theorem implFirstStuck_c (v : Value) (m : Mz) (w : World) (R : List Int) (b : Bool) (hp : pFirstStuck m = (R, b)) (hm : MzAt w v m) : Calls Try.prog 24 #[v] w fun e w' => ∃ u, e = .returned (.tuple #[u, .bool b]) ∧ w'.ownsRow w.heap.size 3 1 u R.length (ints R) ∧ Below w.heap.size w w' := by
  have hM := hm
  obtain ⟨⟨ad, cd, ak, ck, rfl, hd, hk'⟩, nd, nk⟩ := hM
  cases b1 : goodB m
  · simp only [pFirstStuck, b1] at hp
    cases hp
    go_enter Try.func24, Try.ntmps24
    go_wp2_with (go_at_call 77; refine (isSpent_c _ m _ (hm.later (by (repeat (first | exact Below.refl _ _ | apply Below.drew | apply below_drewN | (refine Below.setCell ?_ (by first | omega | (simp; done) | (simp; omega) | (dsimp only; omega)) _) | (refine Below.alloc ?_ (by first | omega | (simp; done) | (simp; omega) | (dsimp only; omega)) _)))))).mono ?_; rintro e w1 ⟨rfl, hb1⟩; have HB1 : Hid (Below w.heap.size w w1) := below_then (by (repeat (first | exact Below.refl _ _ | apply Below.drew | apply below_drewN | (refine Below.setCell ?_ (by first | omega | (simp; done) | (simp; omega) | (dsimp only; omega)) _) | (refine Below.alloc ?_ (by first | omega | (simp; done) | (simp; omega) | (dsimp only; omega)) _)))) hb1)
    have HBF := HB1
    go_ret2
    exact ⟨_, rfl, ⟨rfl, .inl ⟨rfl, rfl⟩⟩, HBF.out⟩
  · simp only [pFirstStuck, b1, if_true, Prod.mk.injEq] at hp
    obtain ⟨hR, hb⟩ := hp
    have HR := Lib.hid hR
    have HB := Lib.hid hb
    have HG := Lib.hid b1
    have hng : m.doors.length ≤ 30 := (good_ok b1).nd
    clear hR hb
    go_enter Try.func24, Try.ntmps24
    go_wp2_with (go_at_call 77; refine (isSpent_c _ m _ (hm.later (by (repeat (first | exact Below.refl _ _ | apply Below.drew | apply below_drewN | (refine Below.setCell ?_ (by first | omega | (simp; done) | (simp; omega) | (dsimp only; omega)) _) | (refine Below.alloc ?_ (by first | omega | (simp; done) | (simp; omega) | (dsimp only; omega)) _)))))).mono ?_; rintro e w1 ⟨rfl, hb1⟩; obtain ⟨hc1, hf1, hz1⟩ := bcell3 hb1; have HB1 : Hid (Below w.heap.size w w1) := below_then (by (repeat (first | exact Below.refl _ _ | apply Below.drew | apply below_drewN | (refine Below.setCell ?_ (by first | omega | (simp; done) | (simp; omega) | (dsimp only; omega)) _) | (refine Below.alloc ?_ (by first | omega | (simp; done) | (simp; omega) | (dsimp only; omega)) _)))) hb1; have HC1 : Hid (w1.cell? ⟨w.heap.size, 0, none⟩ = some (.int .i64 m.size) ∧ w1.cell? ⟨w.heap.size, 1, none⟩ = some (.slice ad m.doors.length cd) ∧ w1.cell? ⟨w.heap.size, 2, none⟩ = some (.slice ak m.keys.length ck) ∧ w.heap.size < w1.heap.size) := (by refine ⟨?_, ?_, ?_, ?_⟩ <;> first | (simp [*, go_sem]; done) | (simp at hz1; omega)))
    obtain ⟨q0, q1, q2, hz⟩ := HC1.out
    refine (first_b 82 Try.f82 Try.func82 (by kernel_rfl) rfl #[.pointer (some ⟨w.heap.size, 0, none⟩)] (stuckP m) _ m _ HG.out (hm.later HB1.out) (fun W O L hW hO => ?_)).mono ?_
    · exact stuckClo_c O w.heap.size cd ck L ad ak m W ((hm.later HB1.out).later hW) (good_ok HG.out) (opn_ok (good_ok HG.out) hO) ((hW.cell (p := ⟨w.heap.size, 0, none⟩) hz).trans q0) ((hW.cell (p := ⟨w.heap.size, 1, none⟩) hz).trans q1) ((hW.cell (p := ⟨w.heap.size, 2, none⟩) hz).trans q2)
    · rintro e w2 ⟨r, rfl, ho2, hb2⟩
      rw [HR.out, HB.out] at *
      have HO2 := Lib.hid ho2
      have HB2 := Lib.hid hb2
      clear ho2 hb2
      go_wp2
      go_ret2
      exact ⟨_, rfl, (Own.mono (Own.of HO2.out) HB1.out.size (Nat.le_refl _)).row, below_then HB1.out HB2.out⟩
theorem implIsSafe_c (v : Value) (m : Mz) (w : World) (hm : MzAt w v m) : Calls Try.prog 26 #[v] w fun e w' => e = .returned (.tuple #[.bool (pIsSafe m).1, .bool (pIsSafe m).2]) ∧ Below w.heap.size w w' := by
  have hM := hm
  obtain ⟨⟨ad, cd, ak, ck, rfl, hd, hk'⟩, nd, nk⟩ := hM
  cases b1 : goodB m
  · have H : Hid (pIsSafe m = (false, false)) := by show _ = _; simp [pIsSafe, b1]
    go_enter Try.func26, Try.ntmps26
    go_wp2_with (go_at_call 77; refine (isSpent_c _ m _ (hm.later (by (repeat (first | exact Below.refl _ _ | apply Below.drew | apply below_drewN | (refine Below.setCell ?_ (by first | omega | (simp; done) | (simp; omega) | (dsimp only; omega)) _) | (refine Below.alloc ?_ (by first | omega | (simp; done) | (simp; omega) | (dsimp only; omega)) _)))))).mono ?_; rintro e w1 ⟨rfl, hb1⟩; have HB1 : Hid (Below w.heap.size w w1) := below_then (by (repeat (first | exact Below.refl _ _ | apply Below.drew | apply below_drewN | (refine Below.setCell ?_ (by first | omega | (simp; done) | (simp; omega) | (dsimp only; omega)) _) | (refine Below.alloc ?_ (by first | omega | (simp; done) | (simp; omega) | (dsimp only; omega)) _)))) hb1; simp only [b1])
    go_ret2
    exact ⟨by rw [H.out]; rfl, HB1.out⟩
  · obtain ⟨b, hb⟩ : ∃ b, b = (fstE (srZ m) (stuckP m)).isSome := ⟨_, rfl⟩
    obtain ⟨R, hR⟩ : ∃ R, R = (fstE (srZ m) (stuckP m)).getD [] := ⟨_, rfl⟩
    have H : Hid (pIsSafe m = (!b, true)) := by show _ = _; rw [hb]; simp [pIsSafe, b1]
    have HP : Hid (pFirstStuck m = (R, b)) := by show _ = _; rw [hb, hR]; simp [pFirstStuck, b1]
    clear hb hR
    go_enter Try.func26, Try.ntmps26
    go_wp2_with (first
      | (go_at_call 77; refine (isSpent_c _ m _ (hm.later (by (repeat (first | exact Below.refl _ _ | apply Below.drew | apply below_drewN | (refine Below.setCell ?_ (by first | omega | (simp; done) | (simp; omega) | (dsimp only; omega)) _) | (refine Below.alloc ?_ (by first | omega | (simp; done) | (simp; omega) | (dsimp only; omega)) _)))))).mono ?_; rintro e w1 ⟨rfl, hb1⟩; obtain ⟨hc1, hf1, hz1⟩ := bcell3 hb1; have HB1 : Hid (Below w.heap.size w w1) := below_then (by (repeat (first | exact Below.refl _ _ | apply Below.drew | apply below_drewN | (refine Below.setCell ?_ (by first | omega | (simp; done) | (simp; omega) | (dsimp only; omega)) _) | (refine Below.alloc ?_ (by first | omega | (simp; done) | (simp; omega) | (dsimp only; omega)) _)))) hb1; simp only [b1])
      | (go_at_call 24; refine (implFirstStuck_c _ m _ _ _ HP.out (hm.later HB1.out)).mono ?_; rintro e w2 ⟨u2, rfl, ho2, hb2⟩))
    go_ret2
    exact ⟨by rw [H.out]; rfl, below_then HB1.out hb2⟩
set_option maxHeartbeats 2000000 in
theorem implCountStates_c (v : Value) (m : Mz) (w : World) (hm : MzAt w v m) : Calls Try.prog 28 #[v] w fun e w' => e = .returned (.tuple #[.int .i64 (pCountStates m).1, .bool (pCountStates m).2]) ∧ Below w.heap.size w w' := by
  have hM := hm
  obtain ⟨⟨ad, cd, ak, ck, rfl, hd, hk'⟩, nd, nk⟩ := hM
  cases b1 : goodB m
  · have H : Hid (pCountStates m = (0, false)) := by show _ = _; simp [pCountStates, b1]
    go_enter Try.func28, Try.ntmps28
    go_wp2_with (go_at_call 77; refine (isSpent_c _ m _ (hm.later (by (repeat (first | exact Below.refl _ _ | apply Below.drew | apply below_drewN | (refine Below.setCell ?_ (by first | omega | (simp; done) | (simp; omega) | (dsimp only; omega)) _) | (refine Below.alloc ?_ (by first | omega | (simp; done) | (simp; omega) | (dsimp only; omega)) _)))))).mono ?_; rintro e w1 ⟨rfl, hb1⟩; have HB1 : Hid (Below w.heap.size w w1) := below_then (by (repeat (first | exact Below.refl _ _ | apply Below.drew | apply below_drewN | (refine Below.setCell ?_ (by first | omega | (simp; done) | (simp; omega) | (dsimp only; omega)) _) | (refine Below.alloc ?_ (by first | omega | (simp; done) | (simp; omega) | (dsimp only; omega)) _)))) hb1; simp only [b1])
    go_ret2
    exact ⟨by rw [H.out]; rfl, HB1.out⟩
  · have H : Hid (pCountStates m = ((((srZ m).length : Nat) : Int), true)) := by show _ = _; simp [pCountStates, b1]
    have HG := Lib.hid b1
    have hle := srZ_le b1
    go_enter Try.func28, Try.ntmps28
    go_upto_region 3 with (go_at_call 77; refine (isSpent_c _ m _ (hm.later (by (repeat (first | exact Below.refl _ _ | apply Below.drew | apply below_drewN | (refine Below.setCell ?_ (by first | omega | (simp; done) | (simp; omega) | (dsimp only; omega)) _) | (refine Below.alloc ?_ (by first | omega | (simp; done) | (simp; omega) | (dsimp only; omega)) _)))))).mono ?_; rintro e w1 ⟨rfl, hb1⟩; obtain ⟨hc1, hf1, hz1⟩ := bcell3 hb1; have HB1 : Hid (Below w.heap.size w w1) := below_then (by (repeat (first | exact Below.refl _ _ | apply Below.drew | apply below_drewN | (refine Below.setCell ?_ (by first | omega | (simp; done) | (simp; omega) | (dsimp only; omega)) _) | (refine Below.alloc ?_ (by first | omega | (simp; done) | (simp; omega) | (dsimp only; omega)) _)))) hb1; have HC1 : Hid (w1.cell? ⟨w.heap.size, 0, none⟩ = some (.int .i64 m.size) ∧ w1.cell? ⟨w.heap.size, 1, none⟩ = some (.slice ad m.doors.length cd) ∧ w1.cell? ⟨w.heap.size, 2, none⟩ = some (.slice ak m.keys.length ck) ∧ w.heap.size < w1.heap.size) := (by refine ⟨?_, ?_, ?_, ?_⟩ <;> first | (simp [*, go_sem]; done) | (simp at hz1; omega)); clear hc1 hf1 hb1; simp only [b1])
    obtain ⟨q0, q1, q2, hz⟩ := HC1.out
    have hal : ∀ (o : Nat) (u : Obj), (w1.alloc u).cell? ⟨w.heap.size, o, none⟩ = w1.cell? ⟨w.heap.size, o, none⟩ := fun o u => World.cell?_alloc_lt _ _ _ hz
    have r0 : (w1.alloc (.cells #[.int .i64 0] 3)).cell? ⟨w.heap.size, 0, none⟩ = some (.int .i64 m.size) := (hal 0 _).trans q0
    have r1 : (w1.alloc (.cells #[.int .i64 0] 3)).cell? ⟨w.heap.size, 1, none⟩ = some (.slice ad m.doors.length cd) := (hal 1 _).trans q1
    have r2 : (w1.alloc (.cells #[.int .i64 0] 3)).cell? ⟨w.heap.size, 2, none⟩ = some (.slice ak m.keys.length ck) := (hal 2 _).trans q2
    clear hal
    go_wp2_with fail
    refine (first_c 85 Try.f85 Try.func85 (by kernel_rfl) rfl #[.pointer (some ⟨w1.heap.size, 0, none⟩)] (fun _ => false) (fun i W => Below w1.heap.size w1 W ∧ W.cell? ⟨w1.heap.size, 0, none⟩ = some (.int .i64 (wrap64 (i : Int))) ∧ W.frozen? ⟨w1.heap.size, 0, none⟩ = false ∧ w1.heap.size < W.heap.size) _ m _ HG.out ?_ ?_ ?_ ?_).mono ?_
    · exact ⟨(Below.refl _ _).alloc (Nat.le_refl _) _, by simp [go_sem]; unfold wrap64; omega, by simp [go_sem], by simp⟩
    · rintro i W ⟨h, -⟩
      exact (hm.later HB1.out).later h
    · rintro i W W' ⟨h1, h2, h3, h4⟩ h
      have hz' : w1.heap.size < (w1.alloc (.cells #[.int .i64 0] 3)).heap.size := by simp
      have := h.size
      exact ⟨h1.trans (h.mono (by omega)), (h.cell (p := ⟨w1.heap.size, 0, none⟩) hz').trans h2, (h.frozen (p := ⟨w1.heap.size, 0, none⟩) hz').trans h3, by omega⟩
    · rintro i W O ⟨h1, h2, h3, h4⟩ hz2 -
      refine (cntClo_c O i w1.heap.size W h2 h3).mono ?_
      rintro e W' ⟨rfl, rfl⟩
      refine ⟨rfl, ⟨Below.setCell h1 (Nat.le_refl _) _, World.cell?_setCell_same' _ _ _ (by rw [h2]; rfl), by simpa using h3, by simpa using h4⟩, Chg.of_grown (grown_setCell W ⟨w1.heap.size, 0, none⟩ _) (fun g hg => by cases hg; simp)⟩
    · rintro e w2 ⟨r, i, rfl, ⟨h1, h2, h3, h4⟩, hi, -, -⟩
      have hn : fstE (srF m [(([], 0) : En)]) (fun _ => false) = none := fstE_none fun _ _ => rfl
      have hi' : i = (srZ m).length := hi hn
      have hw : wrap64 (i : Int) = (((srZ m).length : Nat) : Int) := by rw [hi']; unfold wrap64; omega
      rw [hw] at h2
      clear hi hn hi'
      go_wp2
      go_ret2
      exact ⟨by rw [H.out]; rfl, below_then HB1.out h1⟩
set_option maxHeartbeats 2000000 in
theorem implAllOpened_c (v : Value) (m : Mz) (w : World) (hm : MzAt w v m) : Calls Try.prog 30 #[v] w fun e w' => e = .returned (.tuple #[.bool (pAllOpened m).1, .bool (pAllOpened m).2]) ∧ Below w.heap.size w w' := by
  have hM := hm
  obtain ⟨⟨ad, cd, ak, ck, rfl, hd, hk'⟩, nd, nk⟩ := hM
  cases b1 : goodB m
  · have H : Hid (pAllOpened m = (false, false)) := by show _ = _; simp [pAllOpened, b1]
    go_enter Try.func30, Try.ntmps30
    go_wp2_with (go_at_call 77; refine (isSpent_c _ m _ (hm.later (by (repeat (first | exact Below.refl _ _ | apply Below.drew | apply below_drewN | (refine Below.setCell ?_ (by first | omega | (simp; done) | (simp; omega) | (dsimp only; omega)) _) | (refine Below.alloc ?_ (by first | omega | (simp; done) | (simp; omega) | (dsimp only; omega)) _)))))).mono ?_; rintro e w1 ⟨rfl, hb1⟩; have HB1 : Hid (Below w.heap.size w w1) := below_then (by (repeat (first | exact Below.refl _ _ | apply Below.drew | apply below_drewN | (refine Below.setCell ?_ (by first | omega | (simp; done) | (simp; omega) | (dsimp only; omega)) _) | (refine Below.alloc ?_ (by first | omega | (simp; done) | (simp; omega) | (dsimp only; omega)) _)))) hb1; simp only [b1])
    go_ret2
    exact ⟨by rw [H.out]; rfl, HB1.out⟩
  · have H : Hid (pAllOpened m = ((fstE (srZ m) (fun O => decide ((O : Int) = (allZ m : Int)))).isSome, true)) := by show _ = _; simp [pAllOpened, b1]
    have HG := Lib.hid b1
    have hng : m.doors.length ≤ 30 := (good_ok b1).nd
    have hlk := locksK_len m.doors m.doors.length
    obtain ⟨n, hn⟩ : ∃ n, n = (locksI m).length := ⟨_, rfl⟩
    have hn30 : n ≤ 30 := by rw [hn]; unfold locksI; omega
    have HN := Lib.hid hn
    clear hn hlk
    go_enter Try.func30, Try.ntmps30
    go_upto_region 3 with (go_at_call 77; refine (isSpent_c _ m _ (hm.later (by (repeat (first | exact Below.refl _ _ | apply Below.drew | apply below_drewN | (refine Below.setCell ?_ (by first | omega | (simp; done) | (simp; omega) | (dsimp only; omega)) _) | (refine Below.alloc ?_ (by first | omega | (simp; done) | (simp; omega) | (dsimp only; omega)) _)))))).mono ?_; rintro e w1 ⟨rfl, hb1⟩; obtain ⟨hc1, hf1, hz1⟩ := bcell3 hb1; have HB1 : Hid (Below w.heap.size w w1) := below_then (by (repeat (first | exact Below.refl _ _ | apply Below.drew | apply below_drewN | (refine Below.setCell ?_ (by first | omega | (simp; done) | (simp; omega) | (dsimp only; omega)) _) | (refine Below.alloc ?_ (by first | omega | (simp; done) | (simp; omega) | (dsimp only; omega)) _)))) hb1; have HC1 : Hid (w1.cell? ⟨w.heap.size, 0, none⟩ = some (.int .i64 m.size) ∧ w1.cell? ⟨w.heap.size, 1, none⟩ = some (.slice ad m.doors.length cd) ∧ w1.cell? ⟨w.heap.size, 2, none⟩ = some (.slice ak m.keys.length ck) ∧ w.heap.size < w1.heap.size) := (by refine ⟨?_, ?_, ?_, ?_⟩ <;> first | (simp [*, go_sem]; done) | (simp at hz1; omega)); clear hc1 hf1 hb1; simp only [b1])
    obtain ⟨q0, q1, q2, hz⟩ := HC1.out
    have hal : ∀ (o : Nat) (u : Obj), (w1.alloc u).cell? ⟨w.heap.size, o, none⟩ = w1.cell? ⟨w.heap.size, o, none⟩ := fun o u => World.cell?_alloc_lt _ _ _ hz
    have r0 : (w1.alloc (.cells #[.int .i64 0] 3)).cell? ⟨w.heap.size, 0, none⟩ = some (.int .i64 m.size) := (hal 0 _).trans q0
    have r1 : (w1.alloc (.cells #[.int .i64 0] 3)).cell? ⟨w.heap.size, 1, none⟩ = some (.slice ad m.doors.length cd) := (hal 1 _).trans q1
    have r2 : (w1.alloc (.cells #[.int .i64 0] 3)).cell? ⟨w.heap.size, 2, none⟩ = some (.slice ak m.keys.length ck) := (hal 2 _).trans q2
    clear hal
    have hbA : Below w1.heap.size w1 (w1.alloc (.cells #[.int .i64 0] 3)) := (Below.refl _ _).alloc (Nat.le_refl _) _
    go_wp2_with fail
    refine (locks_c _ m _ (hm.later (below_then HB1.out hbA))).mono ?_
    rintro e w2 ⟨u2, rfl, ho2, hb2⟩
    obtain ⟨a2, c2, rfl⟩ := own_slice ho2
    have hz2 : w1.heap.size < w2.heap.size := by have := hb2.size; simp at this; omega
    have HB2 : Hid (Below w1.heap.size w1 w2) := hbA.trans (hb2.mono (by simp))
    have s0 : w2.cell? ⟨w1.heap.size, 0, none⟩ = some (.int .i64 0) := (hb2.cell (p := ⟨w1.heap.size, 0, none⟩) (by simp)).trans (by simp [go_sem])
    have s1 : w2.frozen? ⟨w1.heap.size, 0, none⟩ = false := (hb2.frozen (p := ⟨w1.heap.size, 0, none⟩) (by simp)).trans (by simp [go_sem])
    have HLO2 : Hid (∀ g, (Value.slice a2 (locksI m).length c2).ownBlock = some g → w1.heap.size + 1 ≤ g) := fun g hg => by have := own_block_lo ho2 hg; simpa using this
    have HI2 := Lib.hid (Own.of ho2)
    obtain ⟨zh, hzh⟩ : ∃ zh, zh = w2.heap.size := ⟨_, rfl⟩
    obtain ⟨zl, hzl⟩ : ∃ zl, zl = (w1.alloc (.cells #[.int .i64 0] 3)).heap.size := ⟨_, rfl⟩
    rw [← hzh, ← hzl] at HI2
    have hzh2 : zh ≤ w2.heap.size := by omega
    clear hzh hzl
    clear ho2 hb2 r0 r1 r2 hbA
    rw [← HN.out] at HI2 HLO2 ⊢
    go_wp2_with fail
    go_loopw [15] (fun i wr => ∃ k : Nat, i = .int .i64 k ∧ k ≤ n ∧ w1.heap.size < wr.heap.size ∧ zh ≤ wr.heap.size ∧ wr.cell? ⟨w1.heap.size, 0, none⟩ = some (.int .i64 (allZK m k : Nat)) ∧ wr.frozen? ⟨w1.heap.size, 0, none⟩ = false ∧ Hid (Own zl zh wr 3 1 (.slice a2 n c2) n (ints (locksI m))) ∧ Hid (Below w1.heap.size w1 wr)) (fun i _ => n - (intOf i).toNat)
    case atStart => exact ⟨0, rfl, Nat.zero_le _, hz2, hzh2, s0, s1, HI2, HB2⟩
    case round =>
      clear s0 s1 HI2 HB2 hz2 q0 q1 q2
      obtain ⟨wi, rfl⟩ : ∃ wi : World, wi = wr := ⟨_, rfl⟩
      obtain ⟨k, rfl, hk, hzi, hzh, s0, s1, HI, HB⟩ := hrel
      by_cases hlt : k < n
      · have hkI : (k : Int) < (n : Int) := by omega
        have hkl : k < (locksI m).length := by rw [← HN.out]; exact hlt
        obtain ⟨j, hj, hjd⟩ := locks_at hkl
        obtain ⟨b, off, x, rfl, HX, hbs, e0⟩ := (ic_of' HI.out HN.out).at k hkl
        rw [hj] at HX
        obtain rfl : (j : Int) = x := HX.out
        obtain ⟨p, HP, ep, hp⟩ := shl_at30 j (by omega)
        have hj30 : (j : Int) < 30 := by omega
        have hA : allZK m k < 1073741824 := bits_lt30 fun i hi => by
          have := (foldl_bit _ _ _ (fun y hy => locks_pos (List.mem_of_mem_take hy))).1 hi
          rcases this with h | h
          · simp at h
          · have := (lock_mem.1 (List.mem_of_mem_take h)).1
            omega
        have HST : Hid (allZK m (k + 1) = allZK m k ||| p) := by show _ = _; rw [allZK_step hkl, hj, HP.out]; simp [setN]
        obtain ⟨A, hAA⟩ : ∃ A, A = allZK m k := ⟨_, rfl⟩
        rw [← hAA] at hA HST s0
        have eo : bits .or .i64 (A : Int) (p : Int) = ((A ||| p : Nat) : Int) := i64_or A p (by omega) (by omega)
        have hne : b ≠ w1.heap.size := by have := HLO2.out b rfl; omega
        clear hj HX hAA
        go_upto_region 7 with fail
        go_region
        all_goals go_wp2
        all_goals go_roundw
        case rel =>
          have h1 := HI.out.grown_ne (grown_setCell wi ⟨w1.heap.size, 0, none⟩ (.int .i64 ((A ||| p : Nat) : Int))) (fun g hg e => by have h2 : b = g := (by simpa [Value.ownBlock] using hg); have h3 : w1.heap.size = g := (by simpa using e); omega)
          have h2 := h1.later (Below.refl _ _).drew (by simpa using hzh)
          refine ⟨k + 1, by go_num, by omega, by simpa using hzi, by simpa using hzh, ?_, by simpa using s1, h2, (Below.setCell HB.out (p := ⟨w1.heap.size, 0, none⟩) (Nat.le_refl _) _).drew⟩
          rw [HST.out]
          exact World.cell?_setCell_same' _ _ _ (by rw [s0]; rfl)
        case measure => simp [intOf]; omega
      · obtain rfl : k = n := by omega
        have hq : ∀ o, wi.cell? ⟨w.heap.size, o, none⟩ = w1.cell? ⟨w.heap.size, o, none⟩ := fun o => HB.out.cell (p := ⟨w.heap.size, o, none⟩) hz
        have q0 := (hq 0).trans HC1.out.1
        have q1 := (hq 1).trans HC1.out.2.1
        have q2 := (hq 2).trans HC1.out.2.2.1
        have HZ : Hid (allZK m k = allZ m) := by show _ = _; rw [HN.out]; rfl
        rw [HZ.out] at s0
        clear hq
        go_wp2_with fail
        refine (first_b 87 Try.f87 Try.func87 (by kernel_rfl) rfl #[.pointer (some ⟨w1.heap.size, 0, none⟩)] (fun O => decide ((O : Int) = (allZ m : Int))) _ m _ HG.out (hm.later (below_then HB1.out HB.out)) (fun W O L hW hO => ?_)).mono ?_
        · exact allClo_c O (allZ m) w1.heap.size W ((hW.cell (p := ⟨w1.heap.size, 0, none⟩) hzi).trans s0)
        · rintro e w3 ⟨r, rfl, ho3, hb3⟩
          obtain ⟨bb, hbb⟩ : ∃ bb, bb = (fstE (srZ m) (fun O => decide ((O : Int) = (allZ m : Int)))).isSome := ⟨_, rfl⟩
          rw [← hbb] at H ⊢
          clear ho3 hbb
          go_wp2
          go_ret2
          exact ⟨by rw [H.out]; rfl, below_then HB1.out (HB.out.trans (hb3.mono HB.out.size))⟩
end Go.Proofs.Ytbaahghfjmkeoaa
