/- The reference's way behind a key walk: spec.l6Way, spec.HintAt, spec.HintColours. -/
import Derived.Test.YtldogbahbjompaaKdRem4
import Derived.Test.YtldogbahbjompaaKdHint
set_option linter.unusedVariables false
set_option linter.unusedSimpArgs false
namespace Go.KD
open Go.RowKit
def nodL (P : Nat → Nat) (k : Nat) : List Int := (List.range k).map fun q => ((P q / 64 : Nat) : Int)
def takL (P : Nat → Nat) (k : Nat) : List Int := (List.range k).map fun q => ((P q % 64 : Nat) : Int)
@[simp] theorem nodL_len (P : Nat → Nat) (k : Nat) : (nodL P k).length = k := by simp [nodL]
@[simp] theorem takL_len (P : Nat → Nat) (k : Nat) : (takL P k).length = k := by simp [takL]
theorem nodL_snoc (P : Nat → Nat) (k : Nat) : nodL P (k + 1) = nodL P k ++ [((P k / 64 : Nat) : Int)] := by simp [nodL, List.range_succ]
theorem takL_snoc (P : Nat → Nat) (k : Nat) : takL P (k + 1) = takL P k ++ [((P k % 64 : Nat) : Int)] := by simp [takL, List.range_succ]
theorem nodL_at (P : Nat → Nat) {n k : Nat} (h : k < n) : (nodL P n)[k]! = ((P k / 64 : Nat) : Int) := by rw [getElem!_pos _ k (by rw [nodL_len]; exact h)]; simp [nodL]
theorem takL_at (P : Nat → Nat) {n k : Nat} (h : k < n) : (takL P n)[k]! = ((P k % 64 : Nat) : Int) := by rw [getElem!_pos _ k (by rw [takL_len]; exact h)]; simp [takL]
def HwPost (m : Mz) (W : List Int) (w : World) (e : Ending) (w' : World) : Prop :=
  Below w.heap.size w w' ∧ ((∃ n : Nat, mazeB m = true ∧ tkAll m W = true ∧ dM m (endW m W) = (n : Int) ∧ ∃ a1 c1 a2 c2, e = .returned (.tuple #[.slice a1 (n + 1) c1, .slice a2 (n + 1) c2, .bool true]) ∧ IC w' a1 (nodL (posW (nxM m) (dM m) (endW m W)) (n + 1)) ∧ IC w' a2 (takL (posW (nxM m) (dM m) (endW m W)) (n + 1))) ∨ (hintB m W = false ∧ ∃ a1 c1 a2 c2, e = .returned (.tuple #[.slice a1 0 c1, .slice a2 0 c2, .bool false])))
theorem ic_grown6 {w w' : World} {a : Option Addr} {n c : Nat} {l : List Int} {row : Option Nat} (h : IC w a l) (hg : w.grownBy w' row) (hne : ∀ b, (Value.slice a n c).ownBlock = some b → 0 < l.length → row ≠ some b) : IC w' a l := by
  intro k hk
  obtain ⟨b, off, hb, hbs, hc⟩ := h k hk
  subst hb
  refine ⟨b, off, rfl, Nat.lt_of_lt_of_le hbs hg.size, ?_⟩
  rw [← hc]
  exact World.cell?_of_block (hg.block b hbs (fun e => hne b rfl (by omega) e.symm))
end Go.KD
namespace Go.Proofs.Ytldogbahbjompaa
open Go.RowKit Go.KD
attribute [local go_sem] later_cell later_frozen
set_option maxRecDepth 100000 in
set_option maxHeartbeats 16000000 in
theorem l6Way_c (v : Value) (m : Mz) (a : Option Addr) (cap : Nat) (W : List Int) (w : World) (hm : MzAt w v m) (hA : IC w a W) (hl : W.length ≤ 1048576) :
    Calls Try.prog 43 #[v, .slice a W.length cap] w (HwPost m W w) := by
  have hM := hm
  obtain ⟨⟨ad, cd, ak, ck, rfl, hd, hk'⟩, nd, nk⟩ := hM
  obtain ⟨i0, ji, jz0, jz1, jz2⟩ := info_parts infoI
  have HM := Lib.hid hm
  have HA := Lib.hid hA
  cases b1 : mazeB m
  · have HD : Hid (hintB m W = false) := by show _ = _; unfold hintB; rw [b1]; rfl
    clear hm hA
    go_enter Try.func43, Try.ntmps43
    go_wp2_with (go_at_call 77; refine (l2Maze_c _ m _ (HM.out.later (by (repeat (first | exact Below.refl _ _ | apply Below.drew | apply below_drewN | (refine Below.setCell ?_ (by first | omega | (simp; done) | (simp; omega) | (dsimp only; omega)) _) | (refine Below.alloc ?_ (by first | omega | (simp; done) | (simp; omega) | (dsimp only; omega)) _)))))).mono ?_; rintro e w1 ⟨rfl, hb1⟩; have HB1 : Hid (Below w.heap.size w w1) := below_then (by (repeat (first | exact Below.refl _ _ | apply Below.drew | apply below_drewN | (refine Below.setCell ?_ (by first | omega | (simp; done) | (simp; omega) | (dsimp only; omega)) _) | (refine Below.alloc ?_ (by first | omega | (simp; done) | (simp; omega) | (dsimp only; omega)) _)))) hb1; rw [b1])
    go_ret3
    exact ⟨(HB1.out.alloc HB1.out.size _).alloc (by have := HB1.out.size; simp; omega) _, .inr ⟨HD.out, _, _, _, _, rfl⟩⟩
  have OK := Lib.hid (mazeB_true.1 b1)
  have HT1 := Lib.hid b1
  clear hm hA
  go_enter Try.func43, Try.ntmps43
  go_wp2_with fail
  refine (l2Maze_c _ m _ (HM.out.later (by (repeat (first | exact Below.refl _ _ | apply Below.drew | apply below_drewN | (refine Below.setCell ?_ (by first | omega | (simp; done) | (simp; omega) | (dsimp only; omega)) _) | (refine Below.alloc ?_ (by first | omega | (simp; done) | (simp; omega) | (dsimp only; omega)) _)))))).mono ?_
  rintro e w1 ⟨rfl, hb1⟩
  have HB1 : Hid (Below w.heap.size w w1) := below_then (by (repeat (first | exact Below.refl _ _ | apply Below.drew | apply below_drewN | (refine Below.setCell ?_ (by first | omega | (simp; done) | (simp; omega) | (dsimp only; omega)) _) | (refine Below.alloc ?_ (by first | omega | (simp; done) | (simp; omega) | (dsimp only; omega)) _)))) hb1
  have HX1 : Hid (Below (w.heap.size + 1) (w.alloc (.cells #[.int .i64 m.size, .slice ad m.doors.length cd, .slice ak m.keys.length ck] 29)) w1) := hb1.mono (by simp)
  obtain ⟨q0, q1, q2, z1⟩ := box3 HX1.out (by omega)
  rw [b1]
  clear hb1 b1
  go_wp2_with fail
  refine (l2Taken_c _ m _ _ W _ (HM.out.later HB1.out) OK.out (HA.out.later HB1.out) hl).mono ?_
  rintro e w2 ⟨hb2, hp⟩
  have HB2 : Hid (Below w.heap.size w w2) := below_then HB1.out hb2
  have HX2 : Hid (Below (w.heap.size + 1) (w.alloc (.cells #[.int .i64 m.size, .slice ad m.doors.length cd, .slice ak m.keys.length ck] 29)) w2) := HX1.out.trans (hb2.mono (by omega))
  clear hb2 q0 q1 q2
  obtain ⟨q0, q1, q2, z2⟩ := box3 HX2.out (by omega)
  rcases hp with ⟨ht, a2, c2, rfl, hi⟩ | ⟨ht, a2, c2, rfl⟩
  case inr =>
    have HD : Hid (hintB m W = false) := by show _ = _; unfold hintB; rw [ht, Bool.and_false]; rfl
    clear ht
    go_wp2_with fail
    go_ret3
    exact ⟨(HB2.out.alloc HB2.out.size _).alloc (by have := HB2.out.size; simp; omega) _, .inr ⟨HD.out, _, _, _, _, rfl⟩⟩
  have HT := Lib.hid ht
  have HI := Lib.hid hi
  have hlen := (tkAll_at ht).1
  obtain ⟨x, s, hx, hs, hxm, hx12, hs64, hend, hclo⟩ := endW_ok OK.out ht
  obtain ⟨en, hen⟩ : ∃ en, en = x * 64 + s := ⟨_, rfl⟩
  have HEND : Hid (endW m W = en) := by show _ = _; rw [hend, hen]
  have HCLO : Hid (cloS m en = en) := by show _ = _; rw [hen]; exact hclo
  obtain ⟨nn, hnn⟩ : ∃ nn : Nat, m.size * 64 = (nn : Int) := Int.eq_ofNat_of_zero_le (by have := OK.out.s1; omega)
  have HNN := Lib.hid hnn
  have hsz2 := OK.out.s2
  have hnn768 : nn ≤ 768 := by omega
  have hennn : en < nn := by omega
  have HREM : Hid (∀ Wl, Below w.heap.size w Wl → Calls Try.prog 90 #[.agg #[.int .i64 m.size, .slice ad m.doors.length cd, .slice ak m.keys.length ck]] Wl fun e w' => ∃ a c, e = .returned (.slice (some ⟨a, 0, none⟩) nn c) ∧ IC w' (some ⟨a, 0, none⟩) (gridDn nn (dR m)) ∧ Below Wl.heap.size Wl w') := fun Wl hW => l4Remain_c _ m nn Wl (HM.out.later hW) OK.out hnn
  clear ht hi hnn hend hclo
  go_wp2_with fail
  refine (HREM.out _ HB2.out).mono ?_
  rintro e w3 ⟨a3, c3, rfl, hi3, hb3⟩
  have HI3 := Lib.hid hi3
  have HB3 : Hid (Below w.heap.size w w3) := below_then HB2.out hb3
  have HX3 : Hid (Below (w.heap.size + 1) (w.alloc (.cells #[.int .i64 m.size, .slice ad m.doors.length cd, .slice ak m.keys.length ck] 29)) w3) := HX2.out.trans (hb3.mono (by omega))
  have HI2 : Hid (IC w3 a2 (tkS m W W.length)) := HI.out.later hb3
  clear hi3 hb3 q0 q1 q2
  obtain ⟨q0, q1, q2, z3⟩ := box3 HX3.out (by omega)
  obtain ⟨b, off, xv, rfl, HX, hbs, e0⟩ := (HA.out.later HB3.out).at (W.length - 1) (by omega)
  obtain rfl : xv = (x : Int) := HX.out.symm.trans hx
  obtain ⟨b', off', sv, rfl, HY, hbs', f0⟩ := HI2.out.at (W.length - 1) (by rw [tkS_len]; omega)
  obtain rfl : sv = (s : Int) := by
    have := HY.out
    rw [tkS_at _ _ (by omega), show W.length - 1 + 1 = W.length by omega, List.take_length, hs] at this
    exact this.symm
  have hw1 : IntKind.i64.wrap ((W.length : Int) - 1) = (W.length : Int) - 1 := by rw [IntKind.wrap_i64]; omega
  have hw2 : (0 : Int) ≤ (W.length : Int) - 1 := by omega
  have hw3 : (W.length : Int) - 1 < (W.length : Int) := by omega
  have hw4 : ((W.length : Int) - 1).toNat = W.length - 1 := by omega
  clear hx hs
  go_upto_region 7 with fail
  refine wp_region_later (w3.heap.size) (by kernel_rfl) (by kernel_rfl) ?_
  repeat (first | go_big_quiet_skip | (go_big_quiet_want; go_big_quiet_op; (first | go_big_quiet_on | (apply Exists.intro; refine ⟨fun W => ?_, ?_⟩; (first | (go_at_call 59; exact Calls.later_same (l4Id_c x s en hen (by omega) (by omega) _))); go_big_quiet_on))))
  refine wpQuiet_nil ?_
  rintro w9 ⟨⟨w9', hb9⟩, h9⟩
  change w9 = w9' at h9
  subst h9
  have HX9 : Hid (Below (w.heap.size + 1) (w.alloc (.cells #[.int .i64 m.size, .slice ad m.doors.length cd, .slice ak m.keys.length ck] 29)) w9) := HX3.out.trans (hb9.mono (by omega))
  have HB9 : Hid (Below w.heap.size w w9) := below_then HB3.out hb9
  have HI9 : Hid (IC w9 (some ⟨a3, 0, none⟩) (gridDn nn (dR m))) := HI3.out.later hb9
  clear q0 q1 q2 hw1 hw2 hw3 hw4 e0 f0 hb9
  obtain ⟨q0, q1, q2, z9⟩ := box3 HX9.out (by omega)
  obtain ⟨d, hd0⟩ : ∃ d, d = dR m := ⟨_, rfl⟩
  rw [← hd0] at HI9
  have HDE : Hid (∀ i, cloS m i = i → d i = dM m i) := by rw [hd0]; exact fun i hi => dR_dM OK.out hi
  obtain ⟨b4, o4, dv, he4, HDX, hz4, hc4⟩ := HI9.out.at en (by rw [gridDn_len]; exact hennn)
  cases he4
  rw [Nat.zero_add] at hc4
  have HDV : Hid (dM m (endW m W) = dv) := by
    show _ = _
    have h1 := HDX.out
    rw [gridDn_at _ hennn, HDE.out _ HCLO.out] at h1
    rw [HEND.out, h1]
  have henI : (en : Int) < (nn : Int) := by omega
  clear hd0 hen
  by_cases hneg : dv < 0
  · have HD : Hid (hintB m W = false) := by
      show _ = _
      unfold hintB
      rw [HDV.out, decide_eq_false (by omega), Bool.and_false]
    have hdn : decide (dv < 0) = true := decide_eq_true hneg
    go_wp2_with fail
    go_ret3
    exact ⟨(HB9.out.alloc HB9.out.size _).alloc (by have := HB9.out.size; simp; omega) _, .inr ⟨HD.out, _, _, _, _, rfl⟩⟩
  · have hdn : decide (dv < 0) = false := decide_eq_false hneg
    obtain ⟨n, hn⟩ := Int.eq_ofNat_of_zero_le (show 0 ≤ dv by omega)
    have HRES : Hid (mazeB m = true ∧ tkAll m W = true ∧ dM m (endW m W) = (n : Int)) := ⟨HT1.out, HT.out, by rw [HDV.out, hn]⟩
    obtain ⟨P, hP⟩ : ∃ P, P = posW (nxM m) (dM m) (endW m W) := ⟨_, rfl⟩
    have HP := Lib.hid hP
    have hP0 : P 0 = en := by rw [hP, posW, HEND.out]
    have HPC : Hid (∀ k, k ≤ n → cloS m (P k) = P k) := fun k hk => by rw [hP]; exact (posW_same OK.out (by rw [HEND.out]; exact HCLO.out) k (by rw [HRES.out.2.2]; omega)).2
    have HPD : Hid (∀ k, k ≤ n → d (P k) = (n : Int) - k) := fun k hk => by
      rw [HDE.out _ (HPC.out k hk), hP, posW_d (dM_ok m) _ k (by rw [HRES.out.2.2]; omega), HRES.out.2.2]
    have HPM : Hid (∀ k, k < n → P (k + 1) ∈ nxM m (P k)) := fun k hk => by rw [hP]; exact posW_mem (dM_ok m) (by rw [HRES.out.2.2]; omega)
    have HPB : Hid (∀ k, k ≤ n → P k < nn) := by
      intro k hk
      cases k with
      | zero => rw [hP0]; exact hennn
      | succ k => have h1 := (nxM_lt OK.out (HPM.out k (by omega))).1; have h2 := HNN.out; omega
    have HPN : Hid (∀ k, k < n → ∀ q, q < (nxM m (P k)).length → d (nxM m (P k))[q]! = (n : Int) - k - 1 → (∀ p, p < q → ¬ d (nxM m (P k))[p]! = (n : Int) - k - 1) → P (k + 1) = (nxM m (P k))[q]!) := by
      intro k hk q hq h1 h2
      have hin : ∀ p, p < (nxM m (P k)).length → d (nxM m (P k))[p]! = dM m (nxM m (P k))[p]! := fun p hp => HDE.out _ (nxM_clo OK.out (by rw [getElem!_pos _ p hp]; exact List.getElem_mem hp))
      have hd9 : dM m (P k) = (n : Int) - k := by rw [← HDE.out _ (HPC.out k (by omega))]; exact HPD.out k (by omega)
      have hs : P (k + 1) = nearW (nxM m) (dM m) (P k) := by rw [hP]; exact posW.eq_2 _ _ _ _
      rw [hs]
      exact nearW_at hq (by rw [← hin q hq, h1, hd9]) (fun p hp => by rw [← hin p (by omega), hd9]; exact h2 p hp)
    have HPE : Hid (∀ k, k < n → ∃ q, q < (nxM m (P k)).length ∧ d (nxM m (P k))[q]! = (n : Int) - k - 1) := by
      intro k hk
      obtain ⟨q, hq, he⟩ := List.mem_iff_getElem.1 (HPM.out k hk)
      exact ⟨q, hq, by rw [getElem!_pos _ q hq, he, HPD.out (k + 1) (by omega)]; omega⟩
    have hn768 : n < 768 := dpos_lt (dM_ok m) (nxM_b OK.out) (i := endW m W) (by rw [HEND.out]; omega) HRES.out.2.2
    have HP00 : Hid (P 0 = en) := hP0
    clear hn hneg hP hP0 HDX
    obtain ⟨x1, s1, hxs1, hs164, hx1, hs1⟩ := id_at' en
    have hq1 : (en : Int) / 64 = (x1 : Int) := by omega
    have hq2 : (en : Int) % 64 = (s1 : Int) := by omega
    have hz9 : w.heap.size < w9.heap.size := z9
    have ha39 : a3 < w9.heap.size := hz4
    have ho1 : ((w9.alloc (.cells #[.int .i64 (x1 : Int)] 3)).alloc (.cells #[.int .i64 (s1 : Int)] 3)).ownsRow w9.heap.size 3 1 (.slice (some ⟨w9.heap.size, 0, none⟩) 1 1) 1 (ints (nodL P 1)) := by
      have h := own_litW (lo := w9.heap.size) (heap_alloc_last w9 (.cells #[.int .i64 (x1 : Int)] 3)) (Nat.le_refl _)
      have h2 := h.alloc (.cells #[.int .i64 (s1 : Int)] 3)
      have e : ints (nodL P 1) = [.int .i64 (x1 : Int)] := by unfold nodL ints; simp [HP00.out]; exact hq1
      rw [e]; exact h2
    have ho2 : ((w9.alloc (.cells #[.int .i64 (x1 : Int)] 3)).alloc (.cells #[.int .i64 (s1 : Int)] 3)).ownsRow w9.heap.size 3 1 (.slice (some ⟨w9.heap.size + 1, 0, none⟩) 1 1) 1 (ints (takL P 1)) := by
      have h := own_litW (lo := w9.heap.size) (heap_alloc_last (w9.alloc (.cells #[.int .i64 (x1 : Int)] 3)) (.cells #[.int .i64 (s1 : Int)] 3)) (by simp)
      rw [World.size_alloc] at h
      have e : ints (takL P 1) = [.int .i64 (s1 : Int)] := by unfold takL ints; simp [HP00.out]; exact hq2
      rw [e]; exact h
    have HO1 := Lib.hid ho1
    have HO2 := Lib.hid ho2
    have HBB : Hid (Below w9.heap.size w9 ((w9.alloc (.cells #[.int .i64 (x1 : Int)] 3)).alloc (.cells #[.int .i64 (s1 : Int)] 3))) := ((Below.refl _ _).alloc (Nat.le_refl _) _).alloc (by simp) _
    clear ho1 ho2 hxs1 hx1 hs1 q0 q1 q2
    go_wp2
    go_loopg [10, 11, 12] n (fun gq nv ov tv wr => ∃ k p g1 c1 g2 c2 : Nat, gq = n - k ∧ k ≤ n ∧ nv = .int .i64 p ∧ Hid (P k = p) ∧ ov = .slice (some ⟨g1, 0, none⟩) (k + 1) c1 ∧ tv = .slice (some ⟨g2, 0, none⟩) (k + 1) c2 ∧ g1 ≠ g2 ∧ Hid (wr.ownsRow w9.heap.size 3 1 (.slice (some ⟨g1, 0, none⟩) (k + 1) c1) (k + 1) (ints (nodL P (k + 1)))) ∧ Hid (wr.ownsRow w9.heap.size 3 1 (.slice (some ⟨g2, 0, none⟩) (k + 1) c2) (k + 1) (ints (takL P (k + 1)))) ∧ Hid (Below w9.heap.size w9 wr))
    case atStart => exact ⟨0, en, w9.heap.size, 1, w9.heap.size + 1, 1, rfl, Nat.zero_le _, rfl, HP00, rfl, rfl, by omega, HO1, HO2, HBB⟩
    case round =>
      clear HO1 HO2 HBB hq1 hq2 hdn hc4
      obtain ⟨wo, rfl⟩ : ∃ wo : World, wo = wr := ⟨_, rfl⟩
      obtain ⟨k, p, g1, c1, g2, c2, hgq, hk, rfl, HPK, rfl, rfl, hg12, HO1, HO2, HBB⟩ := hrel
      have HGQ := Lib.hid hgq
      clear hgq
      have HBo : Hid (Below (w.heap.size + 1) (w.alloc (.cells #[.int .i64 m.size, .slice ad m.doors.length cd, .slice ak m.keys.length ck] 29)) wo) := HX9.out.trans (HBB.out.mono (by omega))
      have HBw : Hid (Below w.heap.size w wo) := below_box HBo.out (by omega)
      obtain ⟨q0, q1, q2, z1⟩ := box3 HBo.out (by omega)
      have hpn : p < nn := by rw [← HPK.out]; exact HPB.out k hk
      have hpI : (p : Int) < (nn : Int) := by omega
      have HIo : Hid (IC wo (some ⟨a3, 0, none⟩) (gridDn nn d)) := HI9.out.later HBB.out
      obtain ⟨b5, o5, cv, he5, HCX, hz5, hcp⟩ := HIo.out.at p (by rw [gridDn_len]; exact hpn)
      cases he5
      rw [Nat.zero_add] at hcp
      have hcv : cv = (n : Int) - k := by have h1 := HCX.out; rw [gridDn_at _ hpn, ← HPK.out, HPD.out k hk] at h1; exact h1.symm
      have HCV := Lib.hid hcv
      clear HCX
      by_cases hlt : k < n
      · have hcv0 : 0 < cv := by omega
        have hcv1 : cv ≤ 768 := by omega
        clear hcv
        obtain ⟨x1, s1, hxs1, hs164, hx1, hs1⟩ := id_at' p
        have hq1 : (p : Int) / 64 = (x1 : Int) := by omega
        have hq2 : (p : Int) % 64 = (s1 : Int) := by omega
        have hx1m : (x1 : Int) < m.size := by have := HNN.out; omega
        obtain ⟨N, hN⟩ : ∃ N, N = stpL m x1 s1 12 := ⟨_, rfl⟩
        have HNX : Hid (nxM m p = N) := by
          show _ = _
          unfold nxM
          rw [hx1, hs1, if_pos hx1m, hN]
        have hNl : N.length ≤ 12 := by rw [hN]; exact stpL_len _ _ _ _
        have HSTEP : Hid (∀ Wl, Below w.heap.size w Wl → Calls Try.prog 91 #[.agg #[.int .i64 m.size, .slice ad m.doors.length cd, .slice ak m.keys.length ck], .int .i64 (x1 : Int), .int .i64 (s1 : Int)] Wl fun e w' => ∃ u, e = .returned u ∧ w'.ownsRow Wl.heap.size 3 1 u N.length (ints (natsI N)) ∧ Below Wl.heap.size Wl w') := by
          rw [hN]
          exact fun Wl hW => l4Step_c _ m x1 s1 Wl (HM.out.later hW) OK.out hx1m hs164
        have HJB : Hid (∀ q, q < N.length → N[q]! < nn) := fun q hq => by
          have hm : N[q]! ∈ nxM m p := by rw [HNX.out, getElem!_pos N q hq]; exact List.getElem_mem hq
          have h1 := (nxM_lt OK.out hm).1
          have h2 := HNN.out
          omega
        obtain ⟨qe, hqe, hqd⟩ := HPE.out k hlt
        rw [HPK.out, HNX.out] at hqe hqd
        have HQD := Lib.hid hqd
        have HPN2 : Hid (∀ q, q < N.length → d N[q]! = (n : Int) - k - 1 → (∀ p, p < q → ¬ d N[p]! = (n : Int) - k - 1) → P (k + 1) = N[q]!) := by
          have := HPN.out k hlt
          rw [HPK.out, HNX.out] at this
          exact this
        clear hN hxs1 hx1 hs1 hqd
        go_wp2_with (go_at_call 91; refine (HSTEP.out _ HBw.out).mono ?_; rintro e w4 ⟨u4, rfl, ho4, hb4⟩; obtain ⟨a4, c4, rfl⟩ := own_slice ho4)
        have HX4 : Hid (Below wo.heap.size wo w4) := hb4
        have HO4 : Hid (Own wo.heap.size w4.heap.size w4 3 1 (.slice a4 N.length c4) N.length (ints (natsI N))) := Own.of ho4
        have hz4 := hb4.size
        clear ho4 hb4 q0 q1 q2 hcp hq1 hq2
        go_loopw [14] (fun qv wr => ∃ q : Nat, qv = .int .i64 q ∧ q ≤ qe ∧ Hid (∀ p, p < q → ¬ d N[p]! = (n : Int) - k - 1) ∧ Hid (Below w4.heap.size w4 wr)) (fun qv _ => N.length - (intOf qv).toNat)
        case atStart => exact ⟨0, rfl, Nat.zero_le _, fun p hp => absurd hp (Nat.not_lt_zero p), Below.refl _ _⟩
        case round =>
          obtain ⟨wz, rfl⟩ : ∃ wz : World, wz = wr := ⟨_, rfl⟩
          obtain ⟨q, rfl, hqq, HNO, HBz⟩ := hrel
          have hqN : q < N.length := by omega
          have hqI : (q : Int) < (N.length : Int) := by omega
          have hq0I : (0 : Int) ≤ (q : Int) := by omega
          have HXz : Hid (Below wo.heap.size wo wz) := HX4.out.trans (HBz.out.mono hz4)
          obtain ⟨b8, off8, av, ha8, HX, hbs8, e8⟩ := (ic_of' (HO4.out.later HBz.out (Nat.le_refl _)) (natsI_len N).symm).at q (by rw [natsI_len]; exact hqN)
          subst ha8
          have hav := HX.out
          rw [natsI_at hqN] at hav
          obtain ⟨j, hj⟩ : ∃ j, j = N[q]! := ⟨_, rfl⟩
          have hjn : j < nn := by rw [hj]; exact HJB.out q hqN
          rw [← hj] at hav
          subst hav
          have hjI : (j : Int) < (nn : Int) := by omega
          have HJ := Lib.hid hj
          have HIz : Hid (IC wz (some ⟨a3, 0, none⟩) (gridDn nn d)) := HIo.out.later HXz.out
          obtain ⟨b6, o6, ov, he6, HOX, hz6, hcj⟩ := HIz.out.at j (by rw [gridDn_len]; exact hjn)
          cases he6
          rw [Nat.zero_add] at hcj
          obtain ⟨b7, o7, cv', he7, HCX, hz7, hcp⟩ := HIz.out.at p (by rw [gridDn_len]; exact hpn)
          cases he7
          rw [Nat.zero_add] at hcp
          obtain rfl : cv' = cv := by have h1 := HCX.out; rw [gridDn_at _ hpn, ← HPK.out, HPD.out k hk, ← HCV.out] at h1; exact h1.symm
          have HOV : Hid (d j = ov) := by have h1 := HOX.out; rw [gridDn_at _ hjn] at h1; exact h1
          have hcw : IntKind.i64.wrap (cv' - 1) = cv' - 1 := by rw [IntKind.wrap_i64]; omega
          clear hj HCX HOX
          by_cases hoc : ov = cv' - 1
          · have hbb : (ov != cv' - 1) = false := by rw [hoc]; simp
            have HPJ : Hid (P (k + 1) = j) := by
              show _ = _
              rw [HPN2.out q hqN (by rw [← HJ.out, HOV.out, hoc, HCV.out]) HNO.out, HJ.out]
            clear hoc
            go_upto_region 13 with fail
            refine wp_region_later (wz.heap.size) (by kernel_rfl) (by kernel_rfl) ?_
            repeat (first | go_big_quiet_skip | (go_big_quiet_want; go_big_quiet_op; go_big_quiet_on))
            refine wpQuiet_nil ?_
            rintro w8 ⟨⟨w8', hb8⟩, h8⟩
            change w8 = w8' at h8
            subst h8
            have hb8z : b8 < w8.heap.size := by have := hb8.size; omega
            replace e8 := (hb8.cell (p := ⟨b8, off8 + q, none⟩) hbs8).trans e8
            have HX8 : Hid (Below wo.heap.size wo w8) := HXz.out.trans (hb8.mono (by have := HXz.out.size; omega))
            have HO18 : Hid (w8.ownsRow w9.heap.size 3 1 (.slice (some ⟨g1, 0, none⟩) (k + 1) c1) (k + 1) (ints (nodL P (k + 1)))) := own_below HO1.out HX8.out
            have HO28 : Hid (w8.ownsRow w9.heap.size 3 1 (.slice (some ⟨g2, 0, none⟩) (k + 1) c2) (k + 1) (ints (takL P (k + 1)))) := own_below HO2.out HX8.out
            have HBB8 : Hid (Below w9.heap.size w9 w8) := HBB.out.trans (HX8.out.mono (by have := HBB.out.size; omega))
            have hz98 := HBB8.out.size
            have hg1z := own_lt HO18.out
            have hg2z := own_lt HO28.out
            have hg1l := own_block_lo HO18.out (g := g1) rfl
            have hg2l := own_block_lo HO28.out (g := g2) rfl
            obtain ⟨x2, s2, hxs2, hs264, hx2, hs2⟩ := id_at' j
            have hr1 : (j : Int) / 64 = (x2 : Int) := by omega
            have hr2 : (j : Int) % 64 = (s2 : Int) := by omega
            have HX2' : Hid (P (k + 1) / 64 = x2 ∧ P (k + 1) % 64 = s2) := by show _ ∧ _; rw [HPJ.out]; exact ⟨hx2, hs2⟩
            clear hb8 hcj hcp hbb hcw hxs2 hx2 hs2
            go_upto_region 17 with (at_builtin; refine wpList_append_lies _ rfl _ _ 23 rfl w9.heap.size 3 i0 (.int .i64 0) 1 8 Try.underlying23 ji jz0 jz1 jz2 rfl (by decide) (.slice (some ⟨g1, 0, none⟩) (k + 1) c1) _ _ rfl (HO18.out.alloc _) ⟨w8.heap.size, 0, none⟩ 1 1 [.int .i64 (x2 : Int)] rfl rfl ?_ ?_ (by omega) ?_ ?_ ?_ (w8.heap.size + 1) ?_ ?_; (exact cell_one_new _ _ _); (simp [Value.oneCell']); (unfold maxLen; omega); omega; (simp; omega); (simp); intro g5 c5 w5 hown5 hgrow5 hat5 hlt5)
            have hgr5 : World.grownBy (w8.alloc (.cells #[.int .i64 (x2 : Int)] 3)) w5 (some g1) := hgrow5
            have hg5 : g5 = g1 ∨ g5 = w8.heap.size + 1 := by rcases hat5 with h | h <;> first | exact .inr h | (left; symm; simpa [Value.ownBlock] using h)
            have HO15 : Hid (w5.ownsRow w9.heap.size 3 1 (.slice (some ⟨g5, 0, none⟩) (k + 1 + 1) c5) (k + 1 + 1) (ints (nodL P (k + 1 + 1)))) := by rw [nodL_snoc, HX2'.out.1, ints_snoc]; exact hown5
            have HO25 : Hid (w5.ownsRow w9.heap.size 3 1 (.slice (some ⟨g2, 0, none⟩) (k + 1) c2) (k + 1) (ints (takL P (k + 1)))) := own_grownW (HO28.out.alloc _) hgr5 (by omega)
            have HBB5 : Hid (Below w9.heap.size w9 w5) := Below.grown (HBB8.out.alloc hz98 _) hgr5 (by simp; omega) (fun b hb => by cases hb; exact hg1l)
            have hz85 : w8.heap.size + 1 ≤ w5.heap.size := by have := hgr5.size; simpa using this
            clear hown5 hgrow5 hat5 hgr5 HO18 HO28
            go_wp2_with (at_builtin; refine wpList_append_lies _ rfl _ _ 23 rfl w9.heap.size 3 i0 (.int .i64 0) 1 8 Try.underlying23 ji jz0 jz1 jz2 rfl (by decide) (.slice (some ⟨g2, 0, none⟩) (k + 1) c2) _ _ rfl (HO25.out.alloc _) ⟨w5.heap.size, 0, none⟩ 1 1 [.int .i64 (s2 : Int)] rfl rfl ?_ ?_ (by omega) ?_ ?_ ?_ (w5.heap.size + 1) ?_ ?_; (exact cell_one_new _ _ _); (simp [Value.oneCell']); (unfold maxLen; omega); omega; (simp; omega); (simp); intro g6 c6 w6 hown6 hgrow6 hat6 hlt6)
            have hgr6 : World.grownBy (w5.alloc (.cells #[.int .i64 (s2 : Int)] 3)) w6 (some g2) := hgrow6
            have hg6 : g6 = g2 ∨ g6 = w5.heap.size + 1 := by rcases hat6 with h | h <;> first | exact .inr h | (left; symm; simpa [Value.ownBlock] using h)
            have HO26 : Hid (w6.ownsRow w9.heap.size 3 1 (.slice (some ⟨g6, 0, none⟩) (k + 1 + 1) c6) (k + 1 + 1) (ints (takL P (k + 1 + 1)))) := by rw [takL_snoc, HX2'.out.2, ints_snoc]; exact hown6
            have HO16 : Hid (w6.ownsRow w9.heap.size 3 1 (.slice (some ⟨g5, 0, none⟩) (k + 1 + 1) c5) (k + 1 + 1) (ints (nodL P (k + 1 + 1)))) := own_grownW (HO15.out.alloc _) hgr6 (by omega)
            have HBB6 : Hid (Below w9.heap.size w9 w6) := Below.grown (HBB5.out.alloc (by omega) _) hgr6 (by simp; omega) (fun b hb => by cases hb; exact hg2l)
            have hg5z := own_lt HO15.out
            have hne : g5 ≠ g6 := by omega
            clear hown6 hgrow6 hat6 hgr6 HO15 HO25
            go_wp2
            go_roundg (n - (k + 1))
            case measure => rw [HGQ.out]; omega
            case rel => exact ⟨k + 1, j, g5, c5, g6, c6, rfl, by omega, rfl, HPJ, rfl, rfl, hne, HO16, HO26, HBB6⟩
          · have hbb : (ov != cv' - 1) = true := by simpa using hoc
            have hqlt : q < qe := by
              rcases Nat.lt_or_ge q qe with h | h
              · exact h
              · obtain rfl : q = qe := by omega
                exact absurd (by rw [← HOV.out, HJ.out, HQD.out, HCV.out]) hoc
            have HNO2 : Hid (∀ p, p < q + 1 → ¬ d N[p]! = (n : Int) - k - 1) := hid_stepT HNO (by rw [← HJ.out, HOV.out, ← HCV.out]; exact hoc)
            clear hoc
            go_upto_region 13 with fail
            refine wp_region_later (wz.heap.size) (by kernel_rfl) (by kernel_rfl) ?_
            repeat (first | go_big_quiet_skip | (go_big_quiet_want; go_big_quiet_op; go_big_quiet_on))
            refine wpQuiet_nil ?_
            rintro w8 ⟨⟨w8', hb8⟩, h8⟩
            change w8 = w8' at h8
            subst h8
            have HB8 : Hid (Below w4.heap.size w4 w8) := HBz.out.trans (hb8.mono (by have := HBz.out.size; omega))
            clear hb8 e8 hcj hcp hbb hcw
            go_wp2
            go_roundw
            case rel => exact ⟨q + 1, by go_num, by omega, HNO2, HB8⟩
            case measure => simp [intOf]; omega
      · obtain rfl : n = k := by omega
        obtain rfl : cv = 0 := by omega
        have HIF1 : Hid (IC wo (some ⟨g1, 0, none⟩) (nodL P (n + 1))) := ic_of' (Own.of HO1.out) (nodL_len _ _).symm
        have HIF2 : Hid (IC wo (some ⟨g2, 0, none⟩) (takL P (n + 1))) := ic_of' (Own.of HO2.out) (takL_len _ _).symm
        clear hcv
        go_wp2
        go_ret3
        exact ⟨HBw.out, .inl ⟨n, HRES.out.1, HRES.out.2.1, HRES.out.2.2, _, _, _, _, rfl, by rw [← HP.out]; exact HIF1.out, by rw [← HP.out]; exact HIF2.out⟩⟩
set_option maxHeartbeats 4000000 in
theorem specHintAt_c (v : Value) (m : Mz) (a : Option Addr) (cap : Nat) (W : List Int) (w : World) (hm : MzAt w v m) (hA : IC w a W) (hl : W.length ≤ 1048576) (wl : ∀ y ∈ W, wfI y) :
    Calls Try.prog 12 #[v, .slice a W.length cap] w fun e w' => e = .returned (.tuple #[.int .i64 (pHintAt m W).1, .bool (pHintAt m W).2]) ∧ Below w.heap.size w w' := by
  have hM := hm
  obtain ⟨⟨ad, cd, ak, ck, rfl, hd, hk'⟩, nd, nk⟩ := hM
  have HM := Lib.hid hm
  have HA := Lib.hid hA
  clear hm hA
  go_enter Try.func12, Try.ntmps12
  go_wp2_with fail
  refine (l6Way_c _ m _ _ W _ (HM.out.later (by (repeat (first | exact Below.refl _ _ | apply Below.drew | apply below_drewN | (refine Below.setCell ?_ (by first | omega | (simp; done) | (simp; omega) | (dsimp only; omega)) _) | (refine Below.alloc ?_ (by first | omega | (simp; done) | (simp; omega) | (dsimp only; omega)) _))))) (HA.out.later (by (repeat (first | exact Below.refl _ _ | apply Below.drew | apply below_drewN | (refine Below.setCell ?_ (by first | omega | (simp; done) | (simp; omega) | (dsimp only; omega)) _) | (refine Below.alloc ?_ (by first | omega | (simp; done) | (simp; omega) | (dsimp only; omega)) _))))) hl).mono ?_
  rintro e w1 ⟨hb1, hp⟩
  have HB1 : Hid (Below w.heap.size w w1) := below_then (by (repeat (first | exact Below.refl _ _ | apply Below.drew | apply below_drewN | (refine Below.setCell ?_ (by first | omega | (simp; done) | (simp; omega) | (dsimp only; omega)) _) | (refine Below.alloc ?_ (by first | omega | (simp; done) | (simp; omega) | (dsimp only; omega)) _)))) hb1
  clear hb1
  rcases hp with ⟨n, hb, ht, hn, a1, c1, a2, c2, rfl, hi, hi2⟩ | ⟨hh, a1, c1, a2, c2, rfl⟩
  · have hn768 : n < 768 := by
      have ok := mazeB_true.1 hb
      obtain ⟨x, s, -, -, -, hx12, hs64, hend, -⟩ := endW_ok ok ht
      exact dpos_lt (dM_ok m) (nxM_b ok) (i := endW m W) (by rw [hend]; omega) hn
    rcases Nat.eq_zero_or_pos n with h0 | h0
    · subst h0
      have HR : Hid (pHintAt m W = (0, false)) := by
        show _ = _
        unfold pHintAt
        rw [if_neg]
        intro h2
        rw [Bool.and_eq_true, decide_eq_true_iff] at h2
        omega
      clear hb ht hn hi hi2
      go_wp2_with fail
      go_ret2
      exact ⟨ret_tup2 (by rw [HR.out] <;> rfl), HB1.out⟩
    · obtain ⟨b, off, x, rfl, HX, hbs, e0⟩ := hi.at 1 (by rw [nodL_len]; omega)
      have HR : Hid (pHintAt m W = (x, true)) := by
        show _ = _
        have h1 := HX.out
        rw [nodL_at _ (by omega)] at h1
        unfold pHintAt
        rw [hb, ht, decide_eq_true (by omega), if_pos (show (true && true && true) = true from rfl), h1]
      have hnI : decide (((n + 1 : Nat) : Int) < 2) = false := by simp; omega
      have hnI1 : decide ((n : Int) + 1 < 2) = false := by simp; omega
      have hnI2 : (1 : Int) < ((n + 1 : Nat) : Int) := by omega
      have hnI3 : (1 : Int) < (n : Int) + 1 := by omega
      clear hb ht hn hi hi2
      go_wp2_with fail
      go_ret2
      exact ⟨ret_tup2 (by rw [HR.out] <;> rfl), HB1.out⟩
  · have HR : Hid (pHintAt m W = (0, false)) := pHintAt_no hh
    clear hh
    go_wp2_with fail
    go_ret2
    exact ⟨ret_tup2 (by rw [HR.out] <;> rfl), HB1.out⟩
set_option maxHeartbeats 4000000 in
theorem specHintColours_c (v : Value) (m : Mz) (a : Option Addr) (cap : Nat) (W : List Int) (w : World) (hm : MzAt w v m) (hA : IC w a W) (hl : W.length ≤ 1048576) (wl : ∀ y ∈ W, wfI y) :
    Calls Try.prog 18 #[v, .slice a W.length cap] w fun e w' => e = .returned (.tuple #[.int .i64 (pHintColours m W).1, .bool (pHintColours m W).2]) ∧ Below w.heap.size w w' := by
  have hM := hm
  obtain ⟨⟨ad, cd, ak, ck, rfl, hd, hk'⟩, nd, nk⟩ := hM
  have HM := Lib.hid hm
  have HA := Lib.hid hA
  clear hm hA
  go_enter Try.func18, Try.ntmps18
  go_wp2_with fail
  refine (l6Way_c _ m _ _ W _ (HM.out.later (by (repeat (first | exact Below.refl _ _ | apply Below.drew | apply below_drewN | (refine Below.setCell ?_ (by first | omega | (simp; done) | (simp; omega) | (dsimp only; omega)) _) | (refine Below.alloc ?_ (by first | omega | (simp; done) | (simp; omega) | (dsimp only; omega)) _))))) (HA.out.later (by (repeat (first | exact Below.refl _ _ | apply Below.drew | apply below_drewN | (refine Below.setCell ?_ (by first | omega | (simp; done) | (simp; omega) | (dsimp only; omega)) _) | (refine Below.alloc ?_ (by first | omega | (simp; done) | (simp; omega) | (dsimp only; omega)) _))))) hl).mono ?_
  rintro e w1 ⟨hb1, hp⟩
  have HB1 : Hid (Below w.heap.size w w1) := below_then (by (repeat (first | exact Below.refl _ _ | apply Below.drew | apply below_drewN | (refine Below.setCell ?_ (by first | omega | (simp; done) | (simp; omega) | (dsimp only; omega)) _) | (refine Below.alloc ?_ (by first | omega | (simp; done) | (simp; omega) | (dsimp only; omega)) _)))) hb1
  clear hb1
  rcases hp with ⟨n, hb, ht, hn, a1, c1, a2, c2, rfl, hi, hi2⟩ | ⟨hh, a1, c1, a2, c2, rfl⟩
  · have ok := mazeB_true.1 hb
    obtain ⟨x, s, -, -, -, hx12, hs64, hend, -⟩ := endW_ok ok ht
    have hn768 : n < 768 := dpos_lt (dM_ok m) (nxM_b ok) (i := endW m W) (by rw [hend]; omega) hn
    obtain ⟨P, hP⟩ : ∃ P, P = posW (nxM m) (dM m) (endW m W) := ⟨_, rfl⟩
    have hP0 : P 0 % 64 = s := by rw [hP, posW, hend]; omega
    have HR : Hid (pHintColours m W = (((andn (P n % 64) s : Nat) : Int), true)) := by
      show _ = _
      unfold pHintColours
      have he : endW m W % 64 = s := by rw [hend]; omega
      rw [hb, ht, decide_eq_true (by omega), if_pos (show (true && true && true) = true from rfl), he, hn, Int.toNat_natCast, hP]
    rw [← hP] at hi2
    obtain ⟨b, off, x0, rfl, HX, hbs, e0⟩ := hi2.at 0 (by rw [takL_len]; omega)
    obtain ⟨b', off', xn, he', HY, hbs', e1⟩ := hi2.at n (by rw [takL_len]; omega)
    cases he'
    obtain rfl : x0 = (s : Int) := by have h1 := HX.out; rw [takL_at _ (by omega), hP0] at h1; exact h1.symm
    obtain ⟨c, hc⟩ : ∃ c, c = P n % 64 := ⟨_, rfl⟩
    obtain rfl : xn = (c : Int) := by have h1 := HY.out; rw [takL_at _ (by omega), ← hc] at h1; exact h1.symm
    rw [← hc] at HR
    have hc64 : c < 64 := by omega
    have ea : bits .andNot .i64 (c : Int) (s : Int) = ((andn c s : Nat) : Int) := i64_andNot c s (by omega)
    rw [Nat.add_zero] at e0
    have hnI2 : (0 : Int) < ((n + 1 : Nat) : Int) := by omega
    have hnI3 : (0 : Int) < (n : Int) + 1 := by omega
    have hw0 : IntKind.i64.wrap (((n + 1 : Nat) : Int) - 1) = (n : Int) := by rw [IntKind.wrap_i64]; omega
    have hw1 : IntKind.i64.wrap ((n : Int) + 1 - 1) = (n : Int) := by rw [IntKind.wrap_i64]; omega
    have hw2 : (n : Int) < (n : Int) + 1 := by omega
    have hw3 : (n : Int) < ((n + 1 : Nat) : Int) := by omega
    have hw4 : (0 : Int) ≤ (n : Int) := by omega
    clear hb ht hn hi hi2 hP hP0 hc hend ok HX HY
    go_upto_region 4 with fail
    refine wp_region_later (w1.heap.size) (by kernel_rfl) (by kernel_rfl) ?_
    repeat (first | go_big_quiet_skip | (go_big_quiet_want; go_big_quiet_op; go_big_quiet_on))
    refine wpQuiet_nil ?_
    rintro w9 ⟨⟨w9', hb9⟩, h9⟩
    change w9 = w9' at h9
    subst h9
    have HB9 : Hid (Below w.heap.size w w9) := below_then HB1.out hb9
    clear hb9
    go_wp2
    go_ret2
    exact ⟨ret_tup2 (by rw [HR.out] <;> rfl), HB9.out⟩
  · have HR : Hid (pHintColours m W = (0, false)) := pHintColours_no hh
    clear hh
    go_wp2_with fail
    go_ret2
    exact ⟨ret_tup2 (by rw [HR.out] <;> rfl), HB1.out⟩
end Go.Proofs.Ytldogbahbjompaa
