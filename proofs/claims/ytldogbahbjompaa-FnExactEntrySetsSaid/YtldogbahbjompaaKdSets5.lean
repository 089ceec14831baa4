/- spec.EntrySets. -/
import Derived.Test.YtldogbahbjompaaKdSets3
import Derived.Test.YtldogbahbjompaaKdSets4
import Derived.Test.YtldogbahbjompaaKdOrd4
import Derived.Test.YtldogbahbjompaaKdValidB
set_option linter.unusedVariables false
set_option linter.unusedSimpArgs false
namespace Go.KD
open Go.RowKit
/-- The sets of positive number below k. -/
def posK (T : List Int) (k : Nat) : List Nat := (List.range k).filter fun c => decide (1 ≤ c) && decide (0 < T[c]!)
theorem posK_yes {T : List Int} {k : Nat} (h1 : 1 ≤ k) (h : 0 < T[k]!) : posK T (k + 1) = posK T k ++ [k] := by simp only [posK, List.range_succ, List.filter_append, List.filter_cons, List.filter_nil]; rw [if_pos (by rw [decide_eq_true h1, decide_eq_true h]; rfl)]
theorem posK_no {T : List Int} {k : Nat} (h : ¬ 0 < T[k]!) : posK T (k + 1) = posK T k := by simp only [posK, List.range_succ, List.filter_append, List.filter_cons, List.filter_nil]; rw [if_neg (by rw [decide_eq_false h, Bool.and_false]; exact Bool.false_ne_true), List.append_nil]
theorem posK_len (T : List Int) (k : Nat) : (posK T k).length ≤ k := Nat.le_trans (List.length_filter_le _ _) (by simp)
theorem posK_nodup (T : List Int) (k : Nat) : (posK T k).Nodup := List.Pairwise.filter _ (List.nodup_range (n := k))
theorem posK_ent {m : Mz} (ok : MzOk m) {T : List Int} {n : Nat} (hl : T.length = n) (h4 : n ≤ 4096) (h : T5 m n 0 T) : rowsO (posK T n) = rowsO (entL m) := by
  have hlt : ∀ c, EntS m c → c < n := fun c hE => by
    rw [← hl, h.len]
    refine lt_of_bits (n := m.size.toNat) fun i hi => ?_
    have := ent_size ok hE hi
    have := ok.s1
    omega
  refine rowsO_ext (posK_nodup T n) (entK_nodup m _) (fun c hc => ?_) (fun c hc => ((entL_mem ok).1 hc).lt ok) fun c => ?_
  · have := List.mem_range.1 (List.mem_filter.1 hc).1; omega
  · rw [entL_mem ok]
    subst hl
    unfold posK
    rw [List.mem_filter, List.mem_range, Bool.and_eq_true, decide_eq_true_eq, decide_eq_true_eq]
    constructor
    · rintro ⟨h1, -, h2⟩
      exact (h.all ok h1).1 h2
    · intro hE
      have h1 := hlt c hE
      refine ⟨h1, ?_, (h.all ok h1).2 hE⟩
      rcases Nat.eq_zero_or_pos c with rfl | h0
      · have := hE.zero; simp at this
      · exact h0
theorem rowsO_snoc (L : List Nat) (c : Nat) : rowsO (L ++ [c]) = insL (rowsO L) (mem c) := by unfold rowsO; rw [List.map_append]; exact insAll_snoc _ _
end Go.KD
namespace Go.Proofs.Ytldogbahbjompaa
open Go.RowKit Go.KD
attribute [local go_sem] later_cell later_frozen
set_option maxHeartbeats 4000000 in
theorem specSets_c (ad ak : Option Addr) (cd ck : Nat) (m : Mz) (w : World) (hm : MzAt w (.agg #[.int .i64 m.size, .slice ad m.doors.length cd, .slice ak m.keys.length ck]) m) (b1 : mazeB m = true) (h8 : m.size ≤ 8) :
    Calls Try.prog 34 #[.agg #[.int .i64 m.size, .slice ad m.doors.length cd, .slice ak m.keys.length ck]] w fun e w' => ∃ a c, e = .returned (.tuple #[.slice a (rowsO (entL m)).length c, .bool true]) ∧ TbAt w' a (rowsO (entL m)) ∧ Below w.heap.size w w' := by
  have OK := Lib.hid (mazeB_true.1 b1)
  have HM := Lib.hid hm
  have hd8 : decide ((8 : Int) < m.size) = false := by simp; omega
  have hd9 : ¬ (8 : Int) < m.size := by omega
  have HTB : Hid (∀ W, Below w.heap.size w W → Calls Try.prog 78 #[.agg #[.int .i64 m.size, .slice ad m.doors.length cd, .slice ak m.keys.length ck]] W fun e w' => ∃ (g n : Nat) (T : List Int), e = .returned (.slice (some ⟨g, 0, none⟩) n n) ∧ T.length = n ∧ n ≤ 4096 ∧ T5 m n 0 T ∧ w'.ownsRow W.heap.size 3 1 (.slice (some ⟨g, 0, none⟩) n n) n (ints T) ∧ Below W.heap.size W w') := fun W hW => l5Table_c _ m W (HM.out.later hW) OK.out
  clear hm
  go_enter Try.func34, Try.ntmps34
  go_wp2_with fail
  refine (l2Maze_c _ m _ (HM.out.later (by (repeat (first | exact Below.refl _ _ | apply Below.drew | apply below_drewN | (refine Below.setCell ?_ (by first | omega | (simp; done) | (simp; omega) | (dsimp only; omega)) _) | (refine Below.alloc ?_ (by first | omega | (simp; done) | (simp; omega) | (dsimp only; omega)) _)))))).mono ?_
  rintro e w1 ⟨rfl, hb1⟩
  rw [b1]
  have HB1 : Hid (Below w.heap.size w w1) := below_then (by (repeat (first | exact Below.refl _ _ | apply Below.drew | apply below_drewN | (refine Below.setCell ?_ (by first | omega | (simp; done) | (simp; omega) | (dsimp only; omega)) _) | (refine Below.alloc ?_ (by first | omega | (simp; done) | (simp; omega) | (dsimp only; omega)) _)))) hb1
  have HX1 : Hid (Below (w.heap.size + 1) (w.alloc (.cells #[.int .i64 m.size, .slice ad m.doors.length cd, .slice ak m.keys.length ck] 29)) w1) := (((Below.refl (w.heap.size + 1) (w.alloc (.cells #[.int .i64 m.size, .slice ad m.doors.length cd, .slice ak m.keys.length ck] 29))).alloc (by simp) (.cells #[] 23)).trans (hb1.mono (by simp)))
  obtain ⟨q0, q1, q2, z1⟩ := box3 HX1.out (by omega)
  have z2 : w.heap.size + 1 < w1.heap.size := by have := hb1.size; simp at this; omega
  clear hb1
  go_wp2_with (first
    | (go_at_call 78; refine (HTB.out _ HB1.out).mono ?_; rintro e w2 ⟨g, n, T, rfl, hTl, hn4, hT5, ho2, hb2⟩; have HB2 : Hid (Below w.heap.size w w2) := below_then HB1.out hb2; have HT5 := Lib.hid hT5; have HI2 : Hid (IC w2 (some ⟨g, 0, none⟩) T) := ic_of' (Own.of ho2) hTl.symm; have z3 : w.heap.size + 1 < w2.heap.size := Nat.lt_of_lt_of_le z2 hb2.size; clear ho2 hb2 hT5 q0 q1 q2))
  have HRN : Hid (rowsO (posK T n) = rowsO (entL m)) := posK_ent OK.out hTl hn4 HT5.out
  have hn1 : 1 ≤ n := by
    have h1 := HT5.out.len
    have h2 : 0 < 2 ^ m.size.toNat := Nat.pow_pos (by decide)
    omega
  go_loopw [4, 6] (fun ov cv wr => ∃ (k nP b c : Nat) (P : List (Value × List Int)), cv = .int .i64 k ∧ ov = .slice (some ⟨b, 0, none⟩) nP c ∧ 1 ≤ k ∧ k ≤ n ∧ P.length = nP ∧ nP ≤ k ∧ b < wr.heap.size ∧ nP ≤ c ∧ c ≤ maxLen ∧ Hid (CV wr b 0 (P.map (·.1))) ∧ Hid (VL wr P) ∧ Hid (P.map (·.2) = rowsO (posK T k)) ∧ Hid (Below w2.heap.size w2 wr)) (fun _ cv _ => n - (intOf cv).toNat)
  case atStart => exact ⟨1, 0, _, 0, [], rfl, rfl, Nat.le_refl _, hn1, rfl, by omega, z3, Nat.le_refl _, Nat.zero_le _, fun j u hu => by simp at hu, fun p hp => by simp at hp, rfl, Below.refl _ _⟩
  case round =>
    obtain ⟨wo, rfl⟩ : ∃ wo : World, wo = wr := ⟨_, rfl⟩
    obtain ⟨k, nP, b, c, P, rfl, rfl, hk1, hk, hPl, hPk, hbs, hPc, hcm, HCV, HVL, HPR, HB⟩ := hrel
    have HBw : Hid (Below w.heap.size w wo) := HB2.out.trans (HB.out.mono HB2.out.size)
    by_cases hlt : k < n
    · obtain ⟨b5, o5, x, hbo, HX, hbs5, e0⟩ := (HI2.out.later HB.out).at k (by omega)
      cases hbo
      rw [Nat.zero_add] at e0
      have hkI : (k : Int) < (n : Int) := by omega
      by_cases hx : 0 < x
      · have HPY : Hid (posK T (k + 1) = posK T k ++ [k]) := posK_yes hk1 (by rw [HX.out]; exact hx)
        have hk4 : k < 4096 := by omega
        have h40 : (mem k).length ≤ 40 := mem_len40' k
        obtain ⟨L, hL⟩ : ∃ L, L = mem k := ⟨_, rfl⟩
        have HNO : Hid (∀ W, Calls Try.prog 80 #[.int .i64 k] W fun e w' => ∃ v, e = .returned v ∧ w'.ownsRow W.heap.size 3 1 v L.length (ints L) ∧ Below W.heap.size W w') := by
          rw [hL]; exact fun W => l5Nodes_c k hk4 W
        rw [← hL] at h40
        obtain ⟨nl, hnl⟩ : ∃ nl, nl = L.length := ⟨_, rfl⟩
        rw [← hnl] at h40 HNO
        have HL := Lib.hid hL
        have HNL := Lib.hid hnl
        clear hL hnl HX
        go_wp2_with (first
          | (go_at_call 80; refine (HNO.out _).mono ?_; rintro e w3 ⟨u, rfl, ho3, hb3⟩; obtain ⟨ar, cr, rfl⟩ := own_slice ho3; have HB3 : Hid (Below wo.heap.size wo w3) := below_then (by (repeat (first | exact Below.refl _ _ | apply Below.drew | apply below_drewN | (refine Below.setCell ?_ (by first | omega | (simp; done) | (simp; omega) | (dsimp only; omega)) _) | (refine Below.alloc ?_ (by first | omega | (simp; done) | (simp; omega) | (dsimp only; omega)) _)))) hb3; have HI3 : Hid (IC w3 ar L) := ic_of' (Own.of ho3) HNL.out; clear ho3 hb3)
          | (go_at_call 79; refine (l5Insert_c b 0 c nP P L ar cr nl w3 hPl HNL.out.symm (Nat.lt_of_lt_of_le hbs HB3.out.size) (HCV.out.later hbs HB3.out) (HVL.out.later HB3.out) HI3.out (by omega) hPc hcm (by omega)).mono ?_; rintro e w4 ⟨b', c', rfl, hcv, hbs', hc1, hc2, hb4⟩; have HCV4 := Lib.hid hcv; have HB4 : Hid (Below wo.heap.size wo w4) := HB3.out.trans (hb4.mono HB3.out.size); have HVL4 : Hid (VL w4 (insP P (.slice ar nl cr, L))) := (VL.ins ((HVL.out.later HB3.out).later hb4) ⟨ar, cr, (by show Value.slice ar nl cr = Value.slice ar L.length cr; rw [HNL.out]), HI3.out.later hb4, (by have := HNL.out; show L.length ≤ 1000000; omega)⟩); clear hcv hb4))
        go_roundw
        case rel =>
          have h1 : (insP P (.slice ar nl cr, L)).length = nP + 1 := by rw [insP_len, hPl]
          have h2 : (insP P (.slice ar nl cr, L)).map (·.2) = rowsO (posK T (k + 1)) := by rw [insP_snd, HPY.out, rowsO_snoc, HPR.out, HL.out]
          exact ⟨k + 1, nP + 1, b', c', insP P (.slice ar nl cr, L), by go_num, rfl, by omega, by omega, h1, by omega, hbs', hc1, hc2, HCV4, HVL4, h2, HB.out.trans (HB4.out.mono HB.out.size)⟩
        case measure => simp [intOf]; omega
      · have HPN : Hid (posK T (k + 1) = posK T k) := posK_no (by rw [HX.out]; exact hx)
        have hxd : decide (0 < x) = false := by simpa using hx
        clear HX
        go_wp2
        go_roundw
        case rel => exact ⟨k + 1, nP, b, c, P, by go_num, rfl, by omega, by omega, hPl, by omega, hbs, hPc, hcm, HCV, HVL, by rw [HPN.out]; exact HPR, HB⟩
        case measure => simp [intOf]; omega
    · obtain rfl : n = k := by omega
      have hlen : (rowsO (entL m)).length = nP := by rw [← HRN.out, ← HPR.out, List.length_map, hPl]
      have htb : TbAt wo (some ⟨b, 0, none⟩) (rowsO (entL m)) := by rw [← HRN.out, ← HPR.out]; exact HVL.out.tb hbs HCV.out
      have HTBR := Lib.hid htb
      have HLEN := Lib.hid hlen
      clear htb hlen
      go_wp2
      go_ret2
      exact ⟨some ⟨b, 0, none⟩, c, by rw [HLEN.out]; rfl, HTBR.out, HBw.out⟩
theorem specEntrySets_c (v : Value) (m : Mz) (w : World) (R : List (List Int)) (b : Bool) (hp : pEntrySets m = (R, b)) (hm : MzAt w v m) : Calls Try.prog 34 #[v] w fun e w' => ∃ aw cw, e = .returned (.tuple #[.slice aw R.length cw, .bool b]) ∧ TbAt w' aw R ∧ Below w.heap.size w w' := by
  have hM := hm
  obtain ⟨⟨ad, cd, ak, ck, rfl, hd, hk'⟩, nd, nk⟩ := hM
  cases b1 : mazeB m
  · have : R = [] ∧ b = false := by unfold pEntrySets at hp; rw [b1] at hp; simpa [eq_comm] using hp
    obtain ⟨rfl, rfl⟩ := this
    have HM := Lib.hid hm
    clear hd hk' hm hp
    go_enter Try.func34, Try.ntmps34
    go_wp2_with fail
    refine (l2Maze_c _ m _ (HM.out.later (by (repeat (first | exact Below.refl _ _ | apply Below.drew | apply below_drewN | (refine Below.setCell ?_ (by first | omega | (simp; done) | (simp; omega) | (dsimp only; omega)) _) | (refine Below.alloc ?_ (by first | omega | (simp; done) | (simp; omega) | (dsimp only; omega)) _)))))).mono ?_
    rintro e w1 ⟨rfl, hb1⟩
    rw [b1]
    have HB1 : Hid (Below w.heap.size w w1) := below_then (by (repeat (first | exact Below.refl _ _ | apply Below.drew | apply below_drewN | (refine Below.setCell ?_ (by first | omega | (simp; done) | (simp; omega) | (dsimp only; omega)) _) | (refine Below.alloc ?_ (by first | omega | (simp; done) | (simp; omega) | (dsimp only; omega)) _)))) hb1
    have HX1 : Hid (Below (w.heap.size + 1) (w.alloc (.cells #[.int .i64 m.size, .slice ad m.doors.length cd, .slice ak m.keys.length ck] 29)) w1) := (((Below.refl (w.heap.size + 1) (w.alloc (.cells #[.int .i64 m.size, .slice ad m.doors.length cd, .slice ak m.keys.length ck] 29))).alloc (by simp) (.cells #[] 23)).trans (hb1.mono (by simp)))
    obtain ⟨q0, q1, q2, z1⟩ := box3 HX1.out (by omega)
    have z2 : w.heap.size + 1 < w1.heap.size := by have := hb1.size; simp at this; omega
    clear hb1
    go_wp2
    go_ret2
    exact ⟨_, _, rfl, fun k hk => by simp at hk, HB1.out⟩
  · by_cases h8 : m.size ≤ 8
    · have : R = rowsO (entL m) ∧ b = true := by unfold pEntrySets at hp; rw [b1, decide_eq_true h8] at hp; simpa [eq_comm] using hp
      obtain ⟨rfl, rfl⟩ := this
      exact specSets_c ad ak cd ck m w hm b1 h8
    · have : R = [] ∧ b = false := by unfold pEntrySets at hp; rw [b1, decide_eq_false h8] at hp; simpa [eq_comm] using hp
      obtain ⟨rfl, rfl⟩ := this
      have HM := Lib.hid hm
      have hd8 : (8 : Int) < m.size := by omega
      clear hd hk' hm hp
      go_enter Try.func34, Try.ntmps34
      go_wp2_with fail
      refine (l2Maze_c _ m _ (HM.out.later (by (repeat (first | exact Below.refl _ _ | apply Below.drew | apply below_drewN | (refine Below.setCell ?_ (by first | omega | (simp; done) | (simp; omega) | (dsimp only; omega)) _) | (refine Below.alloc ?_ (by first | omega | (simp; done) | (simp; omega) | (dsimp only; omega)) _)))))).mono ?_
      rintro e w1 ⟨rfl, hb1⟩
      rw [b1]
      have HB1 : Hid (Below w.heap.size w w1) := below_then (by (repeat (first | exact Below.refl _ _ | apply Below.drew | apply below_drewN | (refine Below.setCell ?_ (by first | omega | (simp; done) | (simp; omega) | (dsimp only; omega)) _) | (refine Below.alloc ?_ (by first | omega | (simp; done) | (simp; omega) | (dsimp only; omega)) _)))) hb1
      have HX1 : Hid (Below (w.heap.size + 1) (w.alloc (.cells #[.int .i64 m.size, .slice ad m.doors.length cd, .slice ak m.keys.length ck] 29)) w1) := (((Below.refl (w.heap.size + 1) (w.alloc (.cells #[.int .i64 m.size, .slice ad m.doors.length cd, .slice ak m.keys.length ck] 29))).alloc (by simp) (.cells #[] 23)).trans (hb1.mono (by simp)))
      obtain ⟨q0, q1, q2, z1⟩ := box3 HX1.out (by omega)
      have z2 : w.heap.size + 1 < w1.heap.size := by have := hb1.size; simp at this; omega
      clear hb1
      go_wp2
      go_ret2
      exact ⟨_, _, rfl, fun k hk => by simp at hk, HB1.out⟩
end Go.Proofs.Ytldogbahbjompaa
