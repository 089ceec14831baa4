/- Clutters as the laws ask for them. -/
import Derived.Test.YtmilpahggceemaaKdClut4
import Derived.Deep.OwnRows
set_option linter.unusedVariables false
set_option linter.unusedSimpArgs false
namespace Go.KD
open Go.RowKit
def pMeetsAll (l : List Int) (s : Int) : Bool × Bool := if isClB l && setB s then (meetN (natL l) s.toNat, true) else (false, false)
def pClutterOf (l : List Int) : List Int × Bool := if setsB l then (natsI (lstL (upB (natL l))), true) else ([], false)
def pDualOf (l : List Int) : List Int × Bool := if isClB l then (natsI (lstL (meetN (natL l))), true) else ([], false)
theorem pClutterOf_len (l : List Int) : (pClutterOf l).1.length ≤ 1000000 := by
  unfold pClutterOf; split
  · have := lstL_len (upB (natL l)); simp only [natsI_len]; omega
  · simp
theorem pDualOf_len (l : List Int) : (pDualOf l).1.length ≤ 1000000 := by
  unfold pDualOf; split
  · have := lstL_len (meetN (natL l)); simp only [natsI_len]; omega
  · simp
theorem natsI_inj {a b : List Nat} (h : natsI a = natsI b) : a = b := by
  have := congrArg natL h
  unfold natL natsI at this
  rw [List.map_map, List.map_map] at this
  simpa [Function.comp_def] using this
theorem isClB_sets {l : List Int} (h : isClB l = true) : setsB l = true ∧ l.length ≤ 20 ∧ isClS (natL l) = true := by
  unfold isClB at h
  simp only [Bool.and_eq_true, decide_eq_true_eq] at h
  exact ⟨h.1.2, h.1.1, h.2⟩
theorem clut_isB {l : List Int} (hs : setsB l = true) (h20 : l.length ≤ 20) {S : List Nat} (hp : S.Perm (natL l)) (hst : S.Pairwise (fun a b => keyS a ≤ keyS b)) : decide (natsI (clutF S) = l) = isClB l := by
  have h1 := cl_own hp hst (natL_lt hs)
  rw [Bool.eq_iff_iff, decide_eq_true_eq]
  unfold isClB
  rw [hs, decide_eq_true h20, Bool.true_and, Bool.true_and, ← h1]
  constructor
  · intro h; exact natsI_inj (h.trans (nats_back hs).symm)
  · intro h; rw [h]; exact nats_back hs
theorem dual_eq {L S : List Nat} (hp : S.Perm (thoseN (meetN L) 64)) (hst : S.Pairwise (fun a b => keyS a ≤ keyS b)) : clutF S = lstL (meetN L) := by
  rw [clut_eq hp hst (fun t ht => thoseN_lt ht)]
  exact lstL_congr fun s hs => up_those (fun a b _ _ h k => meet_up a b h k) hs
/-- The family of a list while it is written. -/
def isK (L : List Nat) (i t s : Nat) : Bool := if s < t then upB (L.take (i + 1)) s else upB (L.take i) s
def isR (L : List Nat) (i t : Nat) : List Bool := (List.range 64).map (isK L i t)
@[simp] theorem isR_len (L : List Nat) (i t : Nat) : (isR L i t).length = 64 := by simp [isR]
theorem isR_at (L : List Nat) (i t : Nat) {s : Nat} (hs : s < 64) : (isR L i t)[s]! = isK L i t s := by
  rw [getElem!_pos _ s (by simpa using hs)]; simp [isR]
theorem isR_set (L : List Nat) (i : Nat) {t : Nat} (ht : t < 64) {v : Bool} (hv : v = upB (L.take (i + 1)) t) : (isR L i t).set t v = isR L i (t + 1) := by
  apply List.ext_getElem
  · simp
  · intro s h1 h2
    have hs : s < 64 := by simpa using h2
    rw [List.getElem_set]
    simp only [isR, List.getElem_map, List.getElem_range]
    unfold isK
    split
    · rename_i e; subst e
      rw [if_pos (by omega), hv]
    · rename_i e
      by_cases h : s < t
      · rw [if_pos h, if_pos (by omega)]
      · rw [if_neg h, if_neg (by omega)]
theorem isR_next (L : List Nat) (i : Nat) : isR L i 64 = isR L (i + 1) 0 := by
  unfold isR
  refine List.map_congr_left fun s hs => ?_
  have := List.mem_range.1 hs
  unfold isK
  rw [if_pos this, if_neg (by omega)]
theorem isR_zero (L : List Nat) : isR L 0 0 = List.replicate 64 false := by
  apply List.ext_getElem
  · simp
  · intro i h1 h2
    rw [List.getElem_replicate]
    simp only [isR, List.getElem_map, List.getElem_range, isK]
    simp [upB]
theorem isR_end (L : List Nat) {s : Nat} (hs : s < 64) : (isR L L.length 0)[s]! = upB L s := by
  rw [isR_at _ _ _ hs]
  unfold isK
  rw [if_neg (by omega), List.take_length]
theorem up_step {L : List Nat} {i : Nat} (hi : i < L.length) (s : Nat) : upB (L.take (i + 1)) s = (upB (L.take i) s || subB L[i]! s) := by
  unfold upB
  rw [take_snoc hi, List.any_append]
  simp
theorem own_boolS {w : World} {lo g n cap : Nat} {e : TypeId} {l : List Bool} (h : w.ownsRow lo e 1 (.slice (some ⟨g, 0, none⟩) n cap) n (bools l)) (k : Nat) (x : Bool) :
    (w.setCell ⟨g, k, none⟩ (.bool x)).ownsRow lo e 1 (.slice (some ⟨g, 0, none⟩) n cap) n (bools (l.set k x)) ∧ w.grownBy (w.setCell ⟨g, k, none⟩ (.bool x)) (some g) := by
  obtain ⟨h1, g1⟩ := h.stored k (.bool x)
  rw [bools, List.map_set]
  exact ⟨h1, g1⟩
theorem own_boolC {w : World} {lo g n cap : Nat} {e : TypeId} {l : List Bool} (h : w.ownsRow lo e 1 (.slice (some ⟨g, 0, none⟩) n cap) n (bools l)) (k : Nat) (hk : k < n) (hl : l.length = n) : w.cell? ⟨g, k, none⟩ = some (.bool l[k]!) := by
  rw [h.cellAt k (by omega), bools_at (by omega)]
def dualP (L : List Nat) (x : Nat) : Bool := meetN L x
end Go.KD
namespace Go.Proofs.Ytmilpahggceemaa
open Go.RowKit Go.KD
attribute [local go_sem] later_cell later_frozen
set_option maxHeartbeats 1000000 in
theorem implIsClutter_c (a : Option Addr) (c : Nat) (l : List Int) (w : World) (hA : IC w a l) (hl : l.length ≤ 1048576) (wl : ∀ y ∈ l, wfI y) : Calls Try.prog 15 #[.slice a l.length c] w fun e w' => e = .returned (.bool (isClB l)) ∧ Below w.heap.size w w' := by
  clear wl
  by_cases h20 : l.length ≤ 20
  · have d20 : decide ((l.length : Int) ≤ 20) = true := decide_eq_true (by omega)
    cases hs : setsB l
    case false =>
      have HF : Hid (isClB l = false) := by show _ = _; unfold isClB; rw [hs]; simp
      go_enter Try.func15, Try.ntmps15
      go_wp2_with (go_at_call 129; refine (areSets_c _ _ _ l _ rfl hA hl).mono ?_; rintro e w1 ⟨rfl, hb1⟩; simp only [hs])
      go_ret
      exact ⟨by rw [HF.out]; rfl, hb1⟩
    case true =>
      have HL := Lib.hid (natL_lt hs)
      have HBK := Lib.hid (nats_back hs)
      have HS := Lib.hid hs
      go_enter Try.func15, Try.ntmps15
      go_wp2_with fail
      refine (areSets_c _ _ _ l _ rfl hA hl).mono ?_
      rintro e w1 ⟨rfl, hb1⟩
      have HB1 := Lib.hid hb1
      simp only [hs]
      clear hb1
      go_wp2_with fail
      refine (clutter_c _ _ _ (natL l) _ (by simp) (by rw [HBK.out]; exact hA.later HB1.out) HL.out hl).mono ?_
      rintro e w2 ⟨u2, S, rfl, hp, hst, ho2, hb2⟩
      obtain ⟨a2, c2, rfl⟩ := own_slice ho2
      have HI2 : Hid (IC w2 a2 (natsI (clutF S))) := ic_of' (Own.of ho2) (by simp)
      have HB2 := Lib.hid (below_then HB1.out hb2)
      have HR := Lib.hid (clut_isB HS.out h20 hp hst)
      have hle : (clutF S).length ≤ 1048576 := by
        have hSl := hp.length_eq
        rw [natL_len] at hSl
        have := kpK_len S S.length (Nat.le_refl _)
        rw [kpK_all] at this
        omega
      clear hp hst ho2 hb2
      go_wp2_with fail
      refine (equalI_c _ _ _ (natsI (clutF S)) _ _ _ l _ (by simp) rfl HI2.out (hA.later HB2.out) hle hl).mono ?_
      rintro e w3 ⟨rfl, hb3⟩
      rw [HR.out]
      go_wp2_with fail
      go_ret
      exact ⟨rfl, below_then HB2.out hb3⟩
  · have d20 : decide ((l.length : Int) ≤ 20) = false := decide_eq_false (by omega)
    have HF : Hid (isClB l = false) := by show _ = _; unfold isClB; rw [decide_eq_false h20]; simp
    have h20' : ¬ ((l.length : Int) ≤ 20) := by omega
    go_enter Try.func15, Try.ntmps15
    go_wp2
    go_ret
    exact ⟨by rw [HF.out]; rfl, Below.refl _ _⟩
theorem specMeetsAll_c (a : Option Addr) (c : Nat) (l : List Int) (s : Int) (w : World) (hA : IC w a l) (hl : l.length ≤ 1048576) (wl : ∀ y ∈ l, wfI y) (ws : wfI s) : Calls Try.prog 22 #[.slice a l.length c, .int .i64 s] w fun e w' => e = .returned (.tuple #[.bool (pMeetsAll l s).1, .bool (pMeetsAll l s).2]) ∧ Below w.heap.size w w' := by
  clear wl ws
  cases hc : isClB l
  case false =>
    have H : Hid (pMeetsAll l s = (false, false)) := by show _ = _; simp [pMeetsAll, hc]
    go_enter Try.func22, Try.ntmps22
    go_wp2_with (go_at_call 126; refine (l6Clutter_c _ _ _ l _ rfl hA hl).mono ?_; rintro e w1 ⟨rfl, hb1⟩; simp only [hc])
    go_ret2
    exact ⟨by rw [H.out]; rfl, hb1⟩
  case true =>
    cases hs : setB s
    case false =>
      have H : Hid (pMeetsAll l s = (false, false)) := by show _ = _; simp [pMeetsAll, hs]
      go_enter Try.func22, Try.ntmps22
      go_wp2_with (first | (go_at_call 126; refine (l6Clutter_c _ _ _ l _ rfl hA hl).mono ?_; rintro e w1 ⟨rfl, hb1⟩; simp only [hc]) | (go_at_call 133; refine (l2Set_c _ _).mono ?_; rintro e w2 ⟨rfl, rfl⟩; simp only [hs]))
      go_ret2
      exact ⟨by rw [H.out]; rfl, hb1⟩
    case true =>
      have H : Hid (pMeetsAll l s = (meetN (natL l) s.toNat, true)) := by show _ = _; simp [pMeetsAll, hc, hs]
      obtain ⟨h1, h2⟩ := setB_true.1 hs
      obtain ⟨sn, rfl⟩ := Int.eq_ofNat_of_zero_le h1
      have hsn : sn < 64 := by omega
      have HL := Lib.hid (natL_lt (isClB_sets hc).1)
      have HBK := Lib.hid (nats_back (isClB_sets hc).1)
      go_enter Try.func22, Try.ntmps22
      go_wp2_with (first | (go_at_call 126; refine (l6Clutter_c _ _ _ l _ rfl hA hl).mono ?_; rintro e w1 ⟨rfl, hb1⟩; have HB1 := Lib.hid hb1; simp only [hc]) | (go_at_call 133; refine (l2Set_c _ _).mono ?_; rintro e w2 ⟨rfl, rfl⟩; simp only [hs]) | (go_at_call 127; refine (l6Meets_c _ _ _ (natL l) sn _ (by simp) (by rw [HBK.out]; exact hA.later HB1.out) HL.out hsn hl).mono ?_; rintro e w3 ⟨rfl, rfl⟩))
      go_ret2
      exact ⟨by rw [H.out]; rfl, HB1.out⟩
theorem implMeetsAll_c (a : Option Addr) (c : Nat) (l : List Int) (s : Int) (w : World) (hA : IC w a l) (hl : l.length ≤ 1048576) (wl : ∀ y ∈ l, wfI y) (ws : wfI s) : Calls Try.prog 21 #[.slice a l.length c, .int .i64 s] w fun e w' => e = .returned (.tuple #[.bool (pMeetsAll l s).1, .bool (pMeetsAll l s).2]) ∧ Below w.heap.size w w' := by
  have WL := Lib.hid wl
  clear wl ws
  cases hc : isClB l
  case false =>
    have H : Hid (pMeetsAll l s = (false, false)) := by show _ = _; simp [pMeetsAll, hc]
    go_enter Try.func21, Try.ntmps21
    go_wp2_with (go_at_call 15; refine (implIsClutter_c _ _ l _ hA hl WL.out).mono ?_; rintro e w1 ⟨rfl, hb1⟩; simp only [hc])
    go_ret2
    exact ⟨by rw [H.out]; rfl, hb1⟩
  case true =>
    cases hs : setB s
    case false =>
      have H : Hid (pMeetsAll l s = (false, false)) := by show _ = _; simp [pMeetsAll, hs]
      go_enter Try.func21, Try.ntmps21
      go_wp2_with (first | (go_at_call 15; refine (implIsClutter_c _ _ l _ hA hl WL.out).mono ?_; rintro e w1 ⟨rfl, hb1⟩; simp only [hc]) | (go_at_call 137; refine (isSet_c _ _).mono ?_; rintro e w2 ⟨rfl, rfl⟩; simp only [hs]))
      go_ret2
      exact ⟨by rw [H.out]; rfl, hb1⟩
    case true =>
      have H : Hid (pMeetsAll l s = (meetN (natL l) s.toNat, true)) := by show _ = _; simp [pMeetsAll, hc, hs]
      obtain ⟨h1, h2⟩ := setB_true.1 hs
      obtain ⟨sn, rfl⟩ := Int.eq_ofNat_of_zero_le h1
      have hsn : sn < 64 := by omega
      have HL := Lib.hid (natL_lt (isClB_sets hc).1)
      have HBK := Lib.hid (nats_back (isClB_sets hc).1)
      go_enter Try.func21, Try.ntmps21
      go_wp2_with (first | (go_at_call 15; refine (implIsClutter_c _ _ l _ hA hl WL.out).mono ?_; rintro e w1 ⟨rfl, hb1⟩; have HB1 := Lib.hid hb1; simp only [hc]) | (go_at_call 137; refine (isSet_c _ _).mono ?_; rintro e w2 ⟨rfl, rfl⟩; simp only [hs]) | (go_at_call 138; refine (meets_c _ _ _ (natL l) sn _ (by simp) (by rw [HBK.out]; exact hA.later HB1.out) HL.out hsn hl).mono ?_; rintro e w3 ⟨rfl, hb3⟩))
      go_ret2
      exact ⟨by rw [H.out]; rfl, below_then HB1.out hb3⟩
theorem implClutterOf_c (a : Option Addr) (c : Nat) (l : List Int) (w : World) (R : List Int) (b : Bool) (hp : pClutterOf l = (R, b)) (hA : IC w a l) (hl : l.length ≤ 1048576) (wl : ∀ y ∈ l, wfI y) : Calls Try.prog 18 #[.slice a l.length c] w fun e w' => ∃ u, e = .returned (.tuple #[u, .bool b]) ∧ w'.ownsRow w.heap.size 3 1 u R.length (ints R) ∧ Below w.heap.size w w' := by
  clear wl
  cases hs : setsB l
  case false =>
    simp only [pClutterOf, hs] at hp
    cases hp
    go_enter Try.func18, Try.ntmps18
    go_wp2_with (go_at_call 129; refine (areSets_c _ _ _ l _ rfl hA hl).mono ?_; rintro e w1 ⟨rfl, hb1⟩; simp only [hs])
    go_ret2
    exact ⟨_, rfl, ⟨rfl, .inl ⟨rfl, rfl⟩⟩, hb1⟩
  case true =>
    simp only [pClutterOf, hs, if_true] at hp
    cases hp
    have HL := Lib.hid (natL_lt hs)
    have HBK := Lib.hid (nats_back hs)
    go_enter Try.func18, Try.ntmps18
    go_wp2_with (first | (go_at_call 129; refine (areSets_c _ _ _ l _ rfl hA hl).mono ?_; rintro e w1 ⟨rfl, hb1⟩; have HB1 := Lib.hid hb1; simp only [hs]) | (go_at_call 131; refine (clutter_c _ _ _ (natL l) _ (by simp) (by rw [HBK.out]; exact hA.later HB1.out) HL.out hl).mono ?_; rintro e w2 ⟨u2, S, rfl, hp2, hst, ho2, hb2⟩; have HE := Lib.hid (clut_eq hp2 hst HL.out); have HO2 := Lib.hid ho2; clear hp2 hst ho2))
    go_ret2
    refine ⟨_, rfl, ?_, below_then HB1.out hb2⟩
    have := (Own.mono (Own.of HO2.out) HB1.out.size (Nat.le_refl _)).row
    rw [HE.out] at this
    rw [natsI_len]
    exact this
theorem dualK_c (s g : Nat) (hs : s < 64) (a : Option Addr) (c n : Nat) (L : List Nat) (w : World) (hn : n = L.length) (hL : ∀ t ∈ L, t < 64) (hl : n ≤ 1048576) (hA : IC w a (natsI L)) (hc : w.cell? ⟨g, 0, none⟩ = some (.slice a n c)) : Calls Try.prog 252 #[.int .i64 s, .pointer (some ⟨g, 0, none⟩)] w fun e w' => e = .returned (.bool (meetN L s)) ∧ Below w.heap.size w w' := by
  have HN := Lib.hid hn; clear hn
  have HL := Lib.hid hL; clear hL
  go_enter Try.func252, Try.ntmps252
  go_wp2_with (go_at_call 138; refine (meets_c _ _ _ L s _ HN.out hA HL.out hs hl).mono ?_; rintro e w1 ⟨rfl, hb1⟩)
  go_ret
  exact ⟨rfl, hb1⟩
theorem dual_c (a : Option Addr) (c n : Nat) (L : List Nat) (w : World) (hn : n = L.length) (hA : IC w a (natsI L)) (hL : ∀ t ∈ L, t < 64) (hl : n ≤ 1048576) : Calls Try.prog 125 #[.slice a n c] w fun e w' =>
    ∃ u, e = .returned u ∧ w'.ownsRow w.heap.size 3 1 u (lstL (meetN L)).length (ints (natsI (lstL (meetN L)))) ∧ Below w.heap.size w w' := by
  have HN := Lib.hid hn; clear hn
  have HL := Lib.hid hL; clear hL
  go_enter Try.func125, Try.ntmps125
  go_wp2_with fail
  refine (thoseG_c 252 Try.f252 Try.func252 (by kernel_rfl) rfl #[.pointer (some ⟨w.heap.size, 0, none⟩)] (meetN L) _ (fun s hs w' hb' => dualK_c s w.heap.size hs a c n L w' HN.out HL.out hl (hA.later (Below.trans (by (repeat (first | exact Below.refl _ _ | apply Below.drew | apply below_drewN | (refine Below.setCell ?_ (by first | omega | (simp; done) | (simp; omega) | (dsimp only; omega)) _) | (refine Below.alloc ?_ (by first | omega | (simp; done) | (simp; omega) | (dsimp only; omega)) _)))) (hb'.mono (by simp)))) ((hb'.cell (p := ⟨w.heap.size, 0, none⟩) (by simp)).trans (by simp [go_sem])))).mono ?_
  rintro e w1 ⟨u1, rfl, ho1, hb1⟩
  obtain ⟨a1, c1, rfl⟩ := own_slice ho1
  have HI1 : Hid (IC w1 a1 (natsI (thoseN (meetN L) 64))) := ic_of' (Own.of ho1) (by simp)
  have HB1 : Hid (Below w.heap.size w w1) := Below.trans (by (repeat (first | exact Below.refl _ _ | apply Below.drew | apply below_drewN | (refine Below.setCell ?_ (by first | omega | (simp; done) | (simp; omega) | (dsimp only; omega)) _) | (refine Below.alloc ?_ (by first | omega | (simp; done) | (simp; omega) | (dsimp only; omega)) _)))) (hb1.mono (by simp))
  have hlt := thoseN_len (meetN L) 64
  clear ho1 hb1
  go_wp2_with fail
  refine (clutter_c _ _ _ (thoseN (meetN L) 64) _ rfl HI1.out (fun t ht => thoseN_lt ht) (by omega)).mono ?_
  rintro e w2 ⟨u2, S, rfl, hp2, hst, ho2, hb2⟩
  have HE := Lib.hid (dual_eq hp2 hst)
  have HO2 := Lib.hid ho2
  clear hp2 hst ho2
  go_wp2_with fail
  go_ret
  refine ⟨_, rfl, ?_, below_then HB1.out hb2⟩
  have := (Own.mono (Own.of HO2.out) HB1.out.size (Nat.le_refl _)).row
  rw [HE.out] at this
  exact this
theorem implDualOf_c (a : Option Addr) (c : Nat) (l : List Int) (w : World) (R : List Int) (b : Bool) (hp : pDualOf l = (R, b)) (hA : IC w a l) (hl : l.length ≤ 1048576) (wl : ∀ y ∈ l, wfI y) : Calls Try.prog 13 #[.slice a l.length c] w fun e w' => ∃ u, e = .returned (.tuple #[u, .bool b]) ∧ w'.ownsRow w.heap.size 3 1 u R.length (ints R) ∧ Below w.heap.size w w' := by
  have WL := Lib.hid wl
  clear wl
  cases hc : isClB l
  case false =>
    simp only [pDualOf, hc] at hp
    cases hp
    go_enter Try.func13, Try.ntmps13
    go_wp2_with (go_at_call 15; refine (implIsClutter_c _ _ l _ hA hl WL.out).mono ?_; rintro e w1 ⟨rfl, hb1⟩; simp only [hc])
    go_ret2
    exact ⟨_, rfl, ⟨rfl, .inl ⟨rfl, rfl⟩⟩, hb1⟩
  case true =>
    simp only [pDualOf, hc, if_true] at hp
    cases hp
    have HL := Lib.hid (natL_lt (isClB_sets hc).1)
    have HBK := Lib.hid (nats_back (isClB_sets hc).1)
    go_enter Try.func13, Try.ntmps13
    go_wp2_with (first | (go_at_call 15; refine (implIsClutter_c _ _ l _ hA hl WL.out).mono ?_; rintro e w1 ⟨rfl, hb1⟩; have HB1 := Lib.hid hb1; simp only [hc]) | (go_at_call 125; refine (dual_c _ _ _ (natL l) _ (by simp) (by rw [HBK.out]; exact hA.later HB1.out) HL.out hl).mono ?_; rintro e w2 ⟨u2, rfl, ho2, hb2⟩; have HO2 := Lib.hid ho2; clear ho2))
    go_ret2
    refine ⟨_, rfl, ?_, below_then HB1.out hb2⟩
    have := (Own.mono (Own.of HO2.out) HB1.out.size (Nat.le_refl _)).row
    rw [natsI_len]
    exact this
theorem own_madeBl {base n g : Nat} {e : TypeId} (W : World) (hg : g = W.heap.size) (hb : base ≤ W.heap.size) (hn : n ≤ maxLen) : (W.alloc (.cells (madeCells #[.bool false] n) e)).ownsRow base e 1 (.slice (some ⟨g, 0, none⟩) n n) n (bools (List.replicate n false)) := by
  subst hg
  have h := World.ownsRow_lit (base := base) (e := e) (size := 1) W (madeCells #[.bool false] n) n hb hn (by simp [madeCells])
  have hm : (madeCells #[Value.bool false] n).toList = bools (List.replicate n false) := by
    simp [madeCells, bools]
    apply List.ext_getElem
    · simp
    · intro i h1 h2; simp [Nat.mod_one]
  rwa [hm] at h
set_option maxRecDepth 100000 in
set_option maxHeartbeats 8000000 in
theorem specClutterOf_c (a : Option Addr) (c : Nat) (l : List Int) (w : World) (R : List Int) (b : Bool) (hp : pClutterOf l = (R, b)) (hA : IC w a l) (hl : l.length ≤ 1048576) (wl : ∀ y ∈ l, wfI y) : Calls Try.prog 19 #[.slice a l.length c] w fun e w' => ∃ aw cw, e = .returned (.tuple #[.slice aw R.length cw, .bool b]) ∧ IC w' aw R ∧ Below w.heap.size w w' := by
  clear wl
  have HP := Lib.hid hp; clear hp
  have hmk : ∀ W : World, (Instr.makeSlice 93 (.int .i64 64) (.int .i64 64)).run Try.prog W = .ok (.slice (some ⟨W.heap.size, 0, none⟩) 64 64) (W.alloc (.cells (madeCells #[.bool false] 64) 4)) := fun W => run_make_row' 93 4 (.bool false) 1 Try.underlying93 infoB rfl .i64 .i64 64 (by omega) (by omega) W
  have HO0 : Hid ((w.alloc (.cells (madeCells #[.bool false] 64) 4)).ownsRow w.heap.size 4 1 (.slice (some ⟨w.heap.size, 0, none⟩) 64 64) 64 (bools (isR (natL l) 0 0))) := by
    rw [isR_zero]; exact own_madeBl _ rfl (Nat.le_refl _) (by unfold maxLen; omega)
  obtain ⟨wm, hwm⟩ : ∃ wm, wm = w.alloc (.cells (madeCells #[.bool false] 64) 4) := ⟨_, rfl⟩
  have HBM : Hid (Below w.heap.size w wm) := by rw [hwm]; exact (Below.refl _ _).alloc (Nat.le_refl _) _
  have hmk1 := hmk w
  rw [← hwm] at hmk1 HO0
  have HWM := Lib.hid hwm
  clear hmk hwm
  go_enter Try.func19, Try.ntmps19
  go_wp2
  go_loopw [5] (fun i wr => ∃ k : Nat, i = .int .i64 k ∧ k ≤ l.length ∧ Hid (∀ j, j < k → setB l[j]! = true) ∧ Hid (wr.ownsRow w.heap.size 4 1 (.slice (some ⟨w.heap.size, 0, none⟩) 64 64) 64 (bools (isR (natL l) k 0))) ∧ Below w.heap.size w wr) (fun i _ => l.length - (intOf i).toNat)
  case atStart => exact ⟨0, rfl, Nat.zero_le _, fun j hj => by omega, HO0, HBM.out⟩
  case round =>
    clear HO0 HBM hmk1 HWM
    obtain ⟨wo, rfl⟩ : ∃ wo : World, wo = wr := ⟨_, rfl⟩
    obtain ⟨k, rfl, hk, HK, HO, hb⟩ := hrel
    have HB := Lib.hid hb; clear hb
    by_cases hlt : k < l.length
    · have hkI : (k : Int) < (l.length : Int) := by omega
      obtain ⟨b1, off, x, rfl, HX, hbs, e0⟩ := (hA.later HB.out).at k hlt
      cases hsx : setB x
      case false =>
        have HF : Hid (setsB l = false) := by
          show _ = _
          rw [← Bool.not_eq_true]
          intro h
          have := List.all_eq_true.1 h l[k]! (by rw [getElem!_pos l k hlt]; exact List.getElem_mem hlt)
          rw [HX.out, hsx] at this; cases this
        have HPP : Hid (R = [] ∧ b = false) := by
          have := HP.out
          unfold pClutterOf at this
          rw [HF.out] at this
          cases this; exact ⟨rfl, rfl⟩
        go_wp2_with (go_at_call 133; refine (l2Set_c _ _).mono ?_; rintro e w2 ⟨rfl, rfl⟩; simp only [hsx])
        go_ret2
        refine ⟨_, _, by rw [HPP.out.1, HPP.out.2]; rfl, fun k hk => ?_, HB.out.alloc HB.out.size _⟩
        rw [HPP.out.1] at hk; simp at hk
      case true =>
        obtain ⟨hx0, hx63⟩ := setB_true.1 hsx
        obtain ⟨xn, rfl⟩ := Int.eq_ofNat_of_zero_le hx0
        have hxn : xn < 4096 := by omega
        have HNX : Hid ((natL l)[k]! = xn) := by show _ = _; rw [natL_at hlt, HX.out]; rfl
        have HSX := Lib.hid hsx
        go_wp2_with (go_at_call 133; refine (l2Set_c _ _).mono ?_; rintro e w2 ⟨rfl, rfl⟩; simp only [hsx])
        clear hsx
        go_loopw [6] (fun i wr => ∃ t : Nat, i = .int .i64 t ∧ t ≤ 64 ∧ Hid (wr.ownsRow w.heap.size 4 1 (.slice (some ⟨w.heap.size, 0, none⟩) 64 64) 64 (bools (isR (natL l) k t))) ∧ Below w.heap.size w wr) (fun i _ => 64 - (intOf i).toNat)
        case atStart => exact ⟨0, rfl, by omega, HO, HB.out⟩
        case round =>
          clear HO HB
          obtain ⟨wi, rfl⟩ : ∃ wi : World, wi = wr := ⟨_, rfl⟩
          obtain ⟨t, rfl, ht, HO, hb⟩ := hrel
          have HB := Lib.hid hb; clear hb
          by_cases hlt2 : t < 64
          · have htI : (t : Int) < 64 := by omega
            have ht4 : t < 4096 := by omega
            obtain ⟨b2, off2, x2, hb2, HX2, hbs2, f0⟩ := (hA.later HB.out).at k hlt
            cases hb2
            have hx2 : x2 = (xn : Int) := HX2.out.symm.trans HX.out
            subst hx2
            have c0 := own_boolC HO.out t hlt2 (by simp)
            have c1 := (own_cell HO.out t (by omega)).2
            have HUP : Hid (upB ((natL l).take (k + 1)) t = ((isR (natL l) k t)[t]! || subB xn t)) := by
              show _ = _
              rw [up_step (by simpa using hlt), HNX.out, isR_at _ _ _ hlt2]
              unfold isK
              rw [if_neg (by omega)]
            obtain ⟨bt, hbt⟩ : ∃ bt, bt = (isR (natL l) k t)[t]! := ⟨_, rfl⟩
            rw [← hbt] at c0 HUP
            clear hbt e0
            cases bt
            case true =>
              obtain ⟨ho3, hg3⟩ := own_boolS HO.out t true
              have HO3 : Hid ((wi.setCell ⟨w.heap.size, t, none⟩ (.bool true)).ownsRow w.heap.size 4 1 (.slice (some ⟨w.heap.size, 0, none⟩) 64 64) 64 (bools (isR (natL l) k (t + 1)))) := by
                rw [← isR_set (natL l) k hlt2 (v := true) (by rw [HUP.out]; rfl)]; exact ho3
              clear ho3 hg3
              go_wp2
              go_roundw
              case rel => exact ⟨t + 1, by go_num, by omega, HO3, Below.setCell HB.out (Nat.le_refl _) _⟩
              case measure => simp [intOf]; omega
            case false =>
              obtain ⟨sb, hsb⟩ : ∃ sb, sb = subB xn t := ⟨_, rfl⟩
              rw [← hsb] at HUP
              have HSB := Lib.hid hsb
              clear hsb
              obtain ⟨ho3, hg3⟩ := own_boolS HO.out t sb
              have HO3 : Hid ((wi.setCell ⟨w.heap.size, t, none⟩ (.bool sb)).ownsRow w.heap.size 4 1 (.slice (some ⟨w.heap.size, 0, none⟩) 64 64) 64 (bools (isR (natL l) k (t + 1)))) := by
                rw [← isR_set (natL l) k hlt2 (v := sb) (by rw [HUP.out]; rfl)]; exact ho3
              clear ho3 hg3
              go_wp2_with (go_at_call 134; refine (l2Has_c t xn ht4 hxn _).mono ?_; rintro e w2 ⟨rfl, rfl⟩; rw [← HSB.out])
              go_roundw
              case rel => exact ⟨t + 1, by go_num, by omega, HO3, Below.setCell HB.out (Nat.le_refl _) _⟩
              case measure => simp [intOf]; omega
          · obtain rfl : t = 64 := by omega
            have HN : Hid (∀ j, j < k + 1 → setB l[j]! = true) := by
              intro j hj
              rcases Nat.lt_or_ge j k with h | h
              · exact HK.out j h
              · obtain rfl : j = k := by omega
                rw [HX.out]; exact HSX.out
            go_wp2
            go_roundw
            case rel => exact ⟨k + 1, by go_num, by omega, HN, by rw [← isR_next]; exact HO, HB.out⟩
            case measure => simp [intOf]; omega
    · obtain rfl : k = l.length := by omega
      have HT : Hid (setsB l = true) := by
        show _ = _
        unfold setsB
        rw [List.all_eq_true]
        intro x hx
        obtain ⟨j, hj, rfl⟩ := List.mem_iff_getElem.1 hx
        have := HK.out j hj
        rwa [getElem!_pos l j hj] at this
      have HPP : Hid (R = natsI (lstL (upB (natL l))) ∧ b = true) := by
        have := HP.out
        unfold pClutterOf at this
        rw [HT.out] at this
        cases this; exact ⟨rfl, rfl⟩
      have hcells : ∀ k, k < 64 → wo.cell? ⟨w.heap.size, k, none⟩ = some (.bool (upB (natL l) k)) := by
        intro k hk
        rw [own_boolC HO.out k hk (by simp)]
        have := isR_end (natL l) hk
        rw [natL_len] at this
        rw [this]
      have HCC := Lib.hid hcells
      have hgz := (Own.of HO.out).top w.heap.size rfl
      clear hcells
      go_wp2_with fail
      refine (l6Least_c w.heap.size 64 (upB (natL l)) _ hgz HCC.out).mono ?_
      rintro e w3 ⟨u3, rfl, ho3, hb3⟩
      obtain ⟨a3, c3, rfl⟩ := own_slice ho3
      have HI3 : Hid (IC w3 a3 (natsI (lstL (upB (natL l))))) := ic_of' (Own.of ho3) (by simp)
      clear ho3
      go_wp2_with fail
      go_ret2
      exact ⟨_, _, by rw [HPP.out.1, HPP.out.2, natsI_len]; rfl, by rw [HPP.out.1]; exact HI3.out, below_then HB.out hb3⟩
set_option maxRecDepth 100000 in
set_option maxHeartbeats 8000000 in
theorem specDualOf_c (a : Option Addr) (c : Nat) (l : List Int) (w : World) (R : List Int) (b : Bool) (hp : pDualOf l = (R, b)) (hA : IC w a l) (hl : l.length ≤ 1048576) (wl : ∀ y ∈ l, wfI y) : Calls Try.prog 14 #[.slice a l.length c] w fun e w' => ∃ aw cw, e = .returned (.tuple #[.slice aw R.length cw, .bool b]) ∧ IC w' aw R ∧ Below w.heap.size w w' := by
  clear wl
  obtain ⟨i0, ji, jz0, jz1, jz2⟩ := info_parts infoB
  cases hc : isClB l
  case false =>
    simp only [pDualOf, hc] at hp
    cases hp
    go_enter Try.func14, Try.ntmps14
    go_wp2_with (go_at_call 126; refine (l6Clutter_c _ _ _ l _ rfl hA hl).mono ?_; rintro e w1 ⟨rfl, hb1⟩; have HB1 := Lib.hid hb1; simp only [hc])
    go_ret2
    exact ⟨_, _, rfl, fun k hk => by simp at hk, HB1.out.alloc HB1.out.size _⟩
  case true =>
    simp only [pDualOf, hc, if_true] at hp
    cases hp
    have HL := Lib.hid (natL_lt (isClB_sets hc).1)
    have HBK := Lib.hid (nats_back (isClB_sets hc).1)
    go_enter Try.func14, Try.ntmps14
    go_wp2_with fail
    refine (l6Clutter_c _ _ _ l _ rfl hA hl).mono ?_
    rintro e w1 ⟨rfl, hb1⟩
    have HB1 := Lib.hid hb1
    have hz1 := hb1.size
    simp only [hc]
    clear hb1
    go_wp2_with fail
    have HO1 : Hid ((w1.alloc (.cells #[] 4)).ownsRow w1.heap.size 4 1 (.slice (some ⟨w1.heap.size, 0, none⟩) 0 0) 0 (bools [])) := World.ownsRow_lit w1 #[] 0 (Nat.le_refl _) (by unfold maxLen; omega) rfl
    go_loopw [4, 5] (fun u t wr => ∃ k : Nat, t = .int .i64 k ∧ k ≤ 64 ∧ Hid (wr.ownsRow w1.heap.size 4 1 u k (bools ((List.range k).map (meetN (natL l))))) ∧ Below w1.heap.size w1 wr) (fun _ t _ => 64 - (intOf t).toNat)
    case atStart => exact ⟨0, rfl, by omega, HO1, (Below.refl _ _).alloc (Nat.le_refl _) _⟩
    case round =>
      clear HO1
      obtain ⟨wi, rfl⟩ : ∃ wi : World, wi = wr := ⟨_, rfl⟩
      obtain ⟨k, rfl, hk, HO, hb⟩ := hrel
      have HB := Lib.hid hb
      have hzi := hb.size
      clear hb
      obtain ⟨aM, cM, rfl⟩ := own_slice HO.out
      by_cases hlt : k < 64
      · have hkI : (k : Int) < 64 := by omega
        go_wp2_with (first
          | (go_at_call 127; refine (l6Meets_c _ _ _ (natL l) k _ (by simp) (by rw [HBK.out]; exact (hA.later HB1.out).later (HB.out.trans (Below.refl _ _))) HL.out hlt hl).mono ?_; rintro e w3 ⟨rfl, rfl⟩)
          | (at_builtin; refine wpList_append_own _ rfl _ _ 93 rfl w1.heap.size 4 i0 (.bool false) 1 1 Try.underlying93 ji jz0 jz1 jz2 rfl (by decide) _ _ _ rfl (HO.out.alloc _) ⟨wi.heap.size, 0, none⟩ 1 1 [.bool (meetN (natL l) k)] rfl rfl ?_ ?_ ?_ ?_ ?_ ?_; (exact cell_one_new _ _ _); (simp [Value.oneCell']); (unfold maxLen; omega); omega; (simp; omega); intro v' w4 hown' hgrow _))
        go_roundw
        case rel => exact ⟨k + 1, by go_num, by omega, by rw [List.range_succ, List.map_append, List.map_singleton, bools_snoc]; exact hown', (HB.out.alloc hzi _).grown hgrow (by simp; omega) (fun g hg => own_block_lo HO.out hg)⟩
        case measure => simp [intOf]; omega
      · obtain rfl : k = 64 := by omega
        obtain ⟨g, cG, hs, -, -⟩ := own_someD HO.out (by omega)
        cases hs
        have hgz := (Own.of HO.out).top g rfl
        have hcells : ∀ k, k < 64 → wi.cell? ⟨g, k, none⟩ = some (.bool (meetN (natL l) k)) := by
          intro k hk
          rw [own_boolC HO.out k hk (by simp), getElem!_pos _ k (by simpa using hk)]
          simp
        have HCC := Lib.hid hcells
        clear hcells
        go_wp2_with fail
        refine (l6Least_c g _ (meetN (natL l)) _ hgz HCC.out).mono ?_
        rintro e w3 ⟨u3, rfl, ho3, hb3⟩
        obtain ⟨a3, c3, rfl⟩ := own_slice ho3
        have HI3 : Hid (IC w3 a3 (natsI (lstL (meetN (natL l))))) := ic_of' (Own.of ho3) (by simp)
        clear ho3
        go_wp2_with fail
        go_ret2
        exact ⟨_, _, by rw [natsI_len]; rfl, HI3.out, below_then (HB1.out.trans (HB.out.mono hz1)) hb3⟩
end Go.Proofs.Ytmilpahggceemaa
