/- Contracts of LayKeys: the maze with the keys of a filling, as a result. -/
import Derived.Test.YtbaahghfjmkeoaaKdLay1
import Derived.Test.YtbaahghfjmkeoaaKdSwap
import Derived.Test.YtbaahghfjmkeoaaKdOwn
import Derived.Deep.DeepCutAuto
import Derived.Deep.RegionHeld3
set_option linter.unusedVariables false
set_option linter.unusedSimpArgs false
namespace Go.KD
open Go.RowKit
noncomputable def pLayKeys (m : Mz) (x : Int) (f : List Int) : Mz × Bool := if askB m x && fillB m x f then (layM m (mem x.toNat) f, true) else (⟨0, [], []⟩, false)
theorem ask_ok3 {m : Mz} {x : Int} (h : askB m x = true) : MzOk m ∧ 0 ≤ x ∧ x ≤ 63 := by
  simp only [askB, Bool.and_eq_true] at h
  exact ⟨mazeB_true.1 h.1, setB_true.1 h.2⟩
theorem pLayKeys_len (m : Mz) (x : Int) (f : List Int) : (pLayKeys m x f).1.doors.length ≤ 100000 ∧ (pLayKeys m x f).1.keys.length ≤ 100000 := by
  unfold pLayKeys
  split
  · rename_i h
    rw [Bool.and_eq_true] at h
    have ok := (ask_ok3 h.1).1
    have h1 := ok.nd
    have h2 := ok.nk
    have h3 := ok.s2
    have h4 : (layM m (mem x.toNat) f).keys.length = m.keys.length := by simp [layM]
    have h5 : (layM m (mem x.toNat) f).doors.length = m.doors.length := rfl
    dsimp only
    exact ⟨by omega, by omega⟩
  · simp
theorem fill_len3 {m : Mz} {s : Nat} {f : List Int} (hs : s < 64) (h : fillB m (s : Int) f = true) : f.length = (mem s).length := by
  unfold fillB at h
  rw [Bool.and_eq_true, decide_eq_true_eq] at h
  have := h.1
  simp only [popc, Int.toNat_natCast] at this
  rw [mem_len s hs]
  omega
theorem fill_in3 {m : Mz} {s : Int} {f : List Int} (h : fillB m s f = true) : ∀ j, j < f.length → 0 ≤ f[j]! ∧ f[j]! < m.size := by
  unfold fillB at h
  rw [Bool.and_eq_true] at h
  intro j hj
  have h1 : inB f[j]! 0 (m.size - 1) = true := by
    cases e : inB f[j]! 0 (m.size - 1)
    · have h2 := nodesB_no hj e
      rw [h.2] at h2
      cases h2
    · rfl
  rw [inB_true] at h1
  omega
theorem own_nil3 {lo hi : Nat} {w : World} : MzOwn lo hi w (.agg #[.int .i64 0, .slice none 0 0, .slice none 0 0]) ⟨0, [], []⟩ :=
  ⟨0, 0, _, _, rfl, ⟨⟨rfl, .inl ⟨rfl, rfl⟩⟩, fun g hg => by cases hg⟩, ⟨⟨rfl, .inl ⟨rfl, rfl⟩⟩, fun g hg => by cases hg⟩, fun g hg => by cases hg⟩
theorem MzOwn.set {lo hi : Nat} {w : World} {v : Value} {m : Mz} (h : MzOwn lo hi w v m) {a : Addr} (ha : a.block < lo ∨ hi ≤ a.block) (u : Value) : MzOwn lo hi (w.setCell a u) v m := by
  obtain ⟨e3, e1, vd, vk, hv, o1, o2, h4⟩ := h
  exact ⟨e3, e1, vd, vk, hv, o1.setCell ha u, o2.setCell ha u, h4⟩
end Go.KD
namespace Go.Proofs.Ytbaahghfjmkeoaa
open Go.RowKit Go.KD
attribute [local go_sem] later_cell later_frozen
set_option maxRecDepth 100000 in
set_option maxHeartbeats 8000000 in
theorem implLayKeys_c (v : Value) (m : Mz) (x : Int) (a : Option Addr) (cap : Nat) (l : List Int) (w : World) (R : Mz) (b : Bool) (hp : pLayKeys m x l = (R, b)) (hm : MzAt w v m) (wx : wfI x) (hA : IC w a l) (hl : l.length ≤ 1048576) (wl : ∀ y ∈ l, wfI y) :
    Calls Try.prog 18 #[v, .int .i64 x, .slice a l.length cap] w fun e w' => ∃ u, e = .returned (.tuple #[u, .bool b]) ∧ MzOwn w.heap.size w'.heap.size w' u R ∧ Below w.heap.size w w' := by
  have hM := hm
  obtain ⟨⟨ad, cd, ak, ck, rfl, hd, hk'⟩, nd, nk⟩ := hM
  have H6 : Six ((w.alloc (.cells #[.int .i64 m.size, .slice ad m.doors.length cd, .slice ak m.keys.length ck] 29)).alloc (.cells #[.int .i64 0, .slice none 0 0, .slice none 0 0] 29)) w.heap.size (.int .i64 m.size) (.slice ad m.doors.length cd) (.slice ak m.keys.length ck) (.int .i64 0) (.slice none 0 0) (.slice none 0 0) := ⟨by simp [go_sem], by simp [go_sem], by simp [go_sem], by simp [go_sem], by simp [go_sem], by simp [go_sem], by simp [go_sem], by simp [go_sem], by simp [go_sem], by simp⟩
  have HB0 : Hid (Below w.heap.size w ((w.alloc (.cells #[.int .i64 m.size, .slice ad m.doors.length cd, .slice ak m.keys.length ck] 29)).alloc (.cells #[.int .i64 0, .slice none 0 0, .slice none 0 0] 29))) := ((Below.refl _ _).alloc (Nat.le_refl _) _).alloc (by simp) _
  have HS6 : Hid (∀ W, Below ((w.alloc (.cells #[.int .i64 m.size, .slice ad m.doors.length cd, .slice ak m.keys.length ck] 29)).alloc (.cells #[.int .i64 0, .slice none 0 0, .slice none 0 0] 29)).heap.size ((w.alloc (.cells #[.int .i64 m.size, .slice ad m.doors.length cd, .slice ak m.keys.length ck] 29)).alloc (.cells #[.int .i64 0, .slice none 0 0, .slice none 0 0] 29)) W → Six W w.heap.size (.int .i64 m.size) (.slice ad m.doors.length cd) (.slice ak m.keys.length ck) (.int .i64 0) (.slice none 0 0) (.slice none 0 0)) := fun W hW => H6.later hW
  clear H6
  cases g1 : askB m x
  case false =>
    have hp' : pLayKeys m x l = (⟨0, [], []⟩, false) := by simp [pLayKeys, g1]
    rw [hp'] at hp
    cases hp
    clear hp'
    go_enter Try.func18, Try.ntmps18
    go_wp2_with (go_at_call 71; refine (asked_c _ m _ _ (hm.later HB0.out)).mono ?_; rintro e w1 ⟨rfl, hb1⟩; have HB1 : Hid (Below w.heap.size w w1) := below_then HB0.out hb1; obtain ⟨s0, s1, s2, s3, s4, s5, s6, s7, s8, s9⟩ := HS6.out w1 hb1; have H61 := Lib.hid (HS6.out w1 hb1); rw [g1])
    refine bodyPost_ret (v := .tuple #[.agg #[.int .i64 0, .slice none 0 0, .slice none 0 0], .bool false]) (by simp [results, Try.results18, go_sem, *]) rfl ?_
    exact ⟨_, rfl, own_nil3, by repeat (first | exact HB1.out | refine Below.setCell ?_ (by show w.heap.size ≤ w.heap.size + 1; omega) _)⟩
  cases g2 : fillB m x l
  case false =>
    have hp' : pLayKeys m x l = (⟨0, [], []⟩, false) := by simp [pLayKeys, g2]
    rw [hp'] at hp
    cases hp
    have HG2 := Lib.hid g2
    clear hp' g2
    go_enter Try.func18, Try.ntmps18
    go_wp2_with (first
      | (go_at_call 71; refine (asked_c _ m _ _ (hm.later HB0.out)).mono ?_; rintro e w1 ⟨rfl, hb1⟩; have HB1 : Hid (Below w.heap.size w w1) := below_then HB0.out hb1; obtain ⟨s0, s1, s2, s3, s4, s5, s6, s7, s8, s9⟩ := HS6.out w1 hb1; have H61 := Lib.hid (HS6.out w1 hb1); rw [g1])
      | (go_at_call 72; refine (isFilling_c _ m _ _ _ l _ (hm.later HB1.out) g1 (hA.later HB1.out) hl).mono ?_; rintro e w2 ⟨rfl, hb2⟩; have HB2 : Hid (Below w.heap.size w w2) := below_then HB1.out hb2; clear s0 s1 s2 s3 s4 s5 s6 s7 s8 s9; obtain ⟨s0, s1, s2, s3, s4, s5, s6, s7, s8, s9⟩ := H61.out.later hb2; have H62 := Lib.hid (H61.out.later hb2); rw [HG2.out]))
    refine bodyPost_ret (v := .tuple #[.agg #[.int .i64 0, .slice none 0 0, .slice none 0 0], .bool false]) (by simp [results, Try.results18, go_sem, *]) rfl ?_
    exact ⟨_, rfl, own_nil3, by repeat (first | exact HB2.out | refine Below.setCell ?_ (by show w.heap.size ≤ w.heap.size + 1; omega) _)⟩
  obtain ⟨ok, x0, x1⟩ := ask_ok3 g1
  obtain ⟨xn, rfl⟩ := Int.eq_ofNat_of_zero_le x0
  have hxn : xn < 64 := by omega
  have HLEN : Hid (l.length = (mem xn).length) := fill_len3 hxn g2
  have HFR : Hid (∀ j, j < l.length → 0 ≤ l[j]! ∧ l[j]! < m.size) := fill_in3 g2
  have HCS : Hid (∀ j, j < (mem xn).length → 0 ≤ (mem xn)[j]! ∧ (mem xn)[j]! < 6) := fun j hj => mem_six hxn hj
  have HF12 : Hid (l.length ≤ 12) := by show _ ≤ _; have h1 := HLEN.out; have h2 := mem_len40' xn; rw [mem_len xn hxn] at h1; have := popN_le xn; omega
  have hp' : pLayKeys m (xn : Int) l = (layM m (mem xn) l, true) := by simp [pLayKeys, g1, g2]
  rw [hp'] at hp
  simp only [Prod.mk.injEq] at hp
  obtain ⟨hR, rfl⟩ := hp
  have HR := Lib.hid hR
  have HG2 := Lib.hid g2
  have OK := Lib.hid ok
  have HLL : Hid (R.keys.length = m.keys.length) := by rw [← hR]; show _ = _; simp [layM]
  have HLD : Hid (R.doors.length = m.doors.length) := by rw [← hR]; exact (rfl : _ = _)
  clear hp' hR ok g2
  go_enter Try.func18, Try.ntmps18
  go_upto_region 3 with (first
    | (go_at_call 71; refine (asked_c _ m _ _ (hm.later HB0.out)).mono ?_; rintro e w1 ⟨rfl, hb1⟩; have HB1 : Hid (Below w.heap.size w w1) := below_then HB0.out hb1; obtain ⟨s0, s1, s2, s3, s4, s5, s6, s7, s8, s9⟩ := HS6.out w1 hb1; have H61 := Lib.hid (HS6.out w1 hb1); rw [g1])
    | (go_at_call 72; refine (isFilling_c _ m _ _ _ l _ (hm.later HB1.out) g1 (hA.later HB1.out) hl).mono ?_; rintro e w2 ⟨rfl, hb2⟩; have HB2 : Hid (Below w.heap.size w w2) := below_then HB1.out hb2; clear s0 s1 s2 s3 s4 s5 s6 s7 s8 s9; obtain ⟨s0, s1, s2, s3, s4, s5, s6, s7, s8, s9⟩ := H61.out.later hb2; have H62 := Lib.hid (H61.out.later hb2); rw [HG2.out]))
  have hzz := s9
  go_region_held3 (fun W => W.cell? ⟨w.heap.size, 0, none⟩ = some (.int .i64 m.size) ∧ W.cell? ⟨w.heap.size, 1, none⟩ = some (.slice ad m.doors.length cd) ∧ W.cell? ⟨w.heap.size, 2, none⟩ = some (.slice ak m.keys.length ck))
    (first | exact ⟨s0, s1, s2⟩ | exact ⟨r0, r1, r2⟩ | exact ⟨t0, t1, t2⟩ | (refine ⟨?_, ?_, ?_⟩ <;> (repeat rw [World.cell?_setCell_other _ _ _ _ (by simp)]) <;> first | exact t0 | exact t1 | exact t2))
    (first
      | (go_at_call 74; refine (members_c xn (by omega) _).mono ?_; rintro e w3 ⟨v3, rfl, ho3, hb3⟩; obtain ⟨a3, c3, rfl⟩ := own_slice ho3; have HB3 : Hid (Below w.heap.size w w3) := below_then HB2.out.drew hb3; obtain ⟨r0, r1, r2, r3, r4, r5, r6, r7, r8, r9⟩ := H62.out.later (Below.trans (Below.refl _ _).drew hb3); have H63 := Lib.hid (H62.out.later (Below.trans (Below.refl _ _).drew hb3)))
      | (go_at_call 73; refine (laid_c _ m _ _ (mem xn) _ _ l _ (hm.later HB3.out) OK.out (ic_of (Own.of ho3)) (hA.later HB3.out) HLEN.out HCS.out HFR.out HF12.out).mono ?_; rintro e w4 ⟨v4, rfl, ho4, hb4⟩; rw [HR.out] at ho4; have HB4 : Hid (Below w.heap.size w w4) := below_then HB3.out hb4; obtain ⟨t0, t1, t2, t3, t4, t5, t6, t7, t8, t9⟩ := H63.out.later hb4; have HO4 := Lib.hid ho4; obtain ⟨e3, e1, vd4, vk4, rfl, o3, o1, hap4⟩ := ho4; obtain ⟨a5, c5, rfl⟩ := o3.slice; obtain ⟨a6, c6, rfl⟩ := o1.slice))
  all_goals
    go_wp2
    refine bodyPost_ret (v := .tuple #[.agg #[.int .i64 R.size, .slice a5 R.doors.length c5, .slice a6 R.keys.length c6], .bool true]) (by simp [results, Try.results18, go_sem, *]) rfl ?_
    have hz4 : w.heap.size + 2 ≤ w3.heap.size := by have := r9; omega
    have hzw := HB3.out.size
    have hb5 : Below w.heap.size w w4 := HB4.out
    have ho5 : MzOwn w3.heap.size w4.heap.size w4 (.agg #[.int .i64 R.size, .slice a5 R.doors.length c5, .slice a6 R.keys.length c6]) R := HO4.out
    refine ⟨_, rfl, MzOwn.mono (lo := w3.heap.size) (hi := w4.heap.size) ?_ (by omega) (by simp), ?_⟩
    · repeat (first | exact ho5 | refine MzOwn.set ?_ (.inl (by show w.heap.size + 1 < _; omega)) _)
    · repeat (first | exact hb5 | refine Below.setCell ?_ (by show w.heap.size ≤ w.heap.size + 1; omega) _)
set_option maxRecDepth 100000 in
set_option maxHeartbeats 8000000 in
theorem specLayKeys_c (v : Value) (m : Mz) (x : Int) (a : Option Addr) (cap : Nat) (l : List Int) (w : World) (R : Mz) (b : Bool) (hp : pLayKeys m x l = (R, b)) (hm : MzAt w v m) (wx : wfI x) (hA : IC w a l) (hl : l.length ≤ 1048576) (wl : ∀ y ∈ l, wfI y) :
    Calls Try.prog 17 #[v, .int .i64 x, .slice a l.length cap] w fun e w' => ∃ u, e = .returned (.tuple #[u, .bool b]) ∧ MzAt w' u R ∧ Below w.heap.size w w' := by
  have hM := hm
  obtain ⟨⟨ad, cd, ak, ck, rfl, hd, hk'⟩, nd, nk⟩ := hM
  have H6 : Six ((w.alloc (.cells #[.int .i64 m.size, .slice ad m.doors.length cd, .slice ak m.keys.length ck] 29)).alloc (.cells #[.int .i64 0, .slice none 0 0, .slice none 0 0] 29)) w.heap.size (.int .i64 m.size) (.slice ad m.doors.length cd) (.slice ak m.keys.length ck) (.int .i64 0) (.slice none 0 0) (.slice none 0 0) := ⟨by simp [go_sem], by simp [go_sem], by simp [go_sem], by simp [go_sem], by simp [go_sem], by simp [go_sem], by simp [go_sem], by simp [go_sem], by simp [go_sem], by simp⟩
  have HB0 : Hid (Below w.heap.size w ((w.alloc (.cells #[.int .i64 m.size, .slice ad m.doors.length cd, .slice ak m.keys.length ck] 29)).alloc (.cells #[.int .i64 0, .slice none 0 0, .slice none 0 0] 29))) := ((Below.refl _ _).alloc (Nat.le_refl _) _).alloc (by simp) _
  have HS6 : Hid (∀ W, Below ((w.alloc (.cells #[.int .i64 m.size, .slice ad m.doors.length cd, .slice ak m.keys.length ck] 29)).alloc (.cells #[.int .i64 0, .slice none 0 0, .slice none 0 0] 29)).heap.size ((w.alloc (.cells #[.int .i64 m.size, .slice ad m.doors.length cd, .slice ak m.keys.length ck] 29)).alloc (.cells #[.int .i64 0, .slice none 0 0, .slice none 0 0] 29)) W → Six W w.heap.size (.int .i64 m.size) (.slice ad m.doors.length cd) (.slice ak m.keys.length ck) (.int .i64 0) (.slice none 0 0) (.slice none 0 0)) := fun W hW => H6.later hW
  clear H6
  cases g : (askB m x && fillB m x l)
  case false =>
    have hp' : pLayKeys m x l = (⟨0, [], []⟩, false) := by simp [pLayKeys, g]
    rw [hp'] at hp
    cases hp
    clear hp'
    go_enter Try.func17, Try.ntmps17
    go_wp2_with (go_at_call 68; refine (l9Good_c _ m _ _ _ l _ (hm.later HB0.out) (hA.later HB0.out) hl).mono ?_; rintro e w1 ⟨rfl, hb1⟩; have HB1 : Hid (Below w.heap.size w w1) := below_then HB0.out hb1; obtain ⟨s0, s1, s2, s3, s4, s5, s6, s7, s8, s9⟩ := HS6.out w1 hb1; have H61 := Lib.hid (HS6.out w1 hb1); rw [g])
    refine bodyPost_ret (v := .tuple #[.agg #[.int .i64 0, .slice none 0 0, .slice none 0 0], .bool false]) (by simp [results, Try.results17, go_sem, *]) rfl ?_
    exact ⟨_, rfl, MzOwn.mz (lo := 0) (hi := 0) own_nil3 (by simp) (by simp), by repeat (first | exact HB1.out | refine Below.setCell ?_ (by show w.heap.size ≤ w.heap.size + 1; omega) _)⟩
  have g' := g
  rw [Bool.and_eq_true] at g'
  obtain ⟨g1, g2⟩ := g'
  obtain ⟨ok, x0, x1⟩ := ask_ok3 g1
  obtain ⟨xn, rfl⟩ := Int.eq_ofNat_of_zero_le x0
  have hxn : xn < 64 := by omega
  have HLEN : Hid (l.length = (mem xn).length) := fill_len3 hxn g2
  have HFR : Hid (∀ j, j < l.length → 0 ≤ l[j]! ∧ l[j]! < m.size) := fill_in3 g2
  have HCS : Hid (∀ j, j < (mem xn).length → 0 ≤ (mem xn)[j]! ∧ (mem xn)[j]! < 6) := fun j hj => mem_six hxn hj
  have HF12 : Hid (l.length ≤ 12) := by show _ ≤ _; have h1 := HLEN.out; have h2 := mem_len40' xn; rw [mem_len xn hxn] at h1; have := popN_le xn; omega
  have hp' : pLayKeys m (xn : Int) l = (layM m (mem xn) l, true) := by simp [pLayKeys, g1, g2]
  rw [hp'] at hp
  simp only [Prod.mk.injEq] at hp
  obtain ⟨hR, rfl⟩ := hp
  have HR := Lib.hid hR
  have HG2 := Lib.hid g2
  have OK := Lib.hid ok
  have HLL : Hid (R.keys.length = m.keys.length) := by rw [← hR]; show _ = _; simp [layM]
  have HLD : Hid (R.doors.length = m.doors.length) := by rw [← hR]; exact (rfl : _ = _)
  clear hp' hR ok g2
  go_enter Try.func17, Try.ntmps17
  go_upto_region 3 with (go_at_call 68; refine (l9Good_c _ m _ _ _ l _ (hm.later HB0.out) (hA.later HB0.out) hl).mono ?_; rintro e w1 ⟨rfl, hb1⟩; have HB1 : Hid (Below w.heap.size w w1) := below_then HB0.out hb1; obtain ⟨s0, s1, s2, s3, s4, s5, s6, s7, s8, s9⟩ := HS6.out w1 hb1; have H61 := Lib.hid (HS6.out w1 hb1); rw [g])
  have hzz := s9
  go_region_held3 (fun W => W.cell? ⟨w.heap.size, 0, none⟩ = some (.int .i64 m.size) ∧ W.cell? ⟨w.heap.size, 1, none⟩ = some (.slice ad m.doors.length cd) ∧ W.cell? ⟨w.heap.size, 2, none⟩ = some (.slice ak m.keys.length ck))
    (first | exact ⟨s0, s1, s2⟩ | exact ⟨r0, r1, r2⟩ | exact ⟨t0, t1, t2⟩ | (refine ⟨?_, ?_, ?_⟩ <;> (repeat rw [World.cell?_setCell_other _ _ _ _ (by simp)]) <;> first | exact t0 | exact t1 | exact t2))
    (first
      | (go_at_call 70; refine (l2Colours_c xn hxn _).mono ?_; rintro e w3 ⟨v3, rfl, ho3, hb3⟩; obtain ⟨a3, c3, rfl⟩ := own_slice ho3; have HB3 : Hid (Below w.heap.size w w3) := below_then HB1.out.drew hb3; obtain ⟨r0, r1, r2, r3, r4, r5, r6, r7, r8, r9⟩ := H61.out.later (Below.trans (Below.refl _ _).drew hb3); have H63 := Lib.hid (H61.out.later (Below.trans (Below.refl _ _).drew hb3)))
      | (go_at_call 69; refine (l9Lay_c _ m _ _ (mem xn) _ _ l _ (hm.later HB3.out) OK.out (ic_of (Own.of ho3)) (hA.later HB3.out) HLEN.out HCS.out HFR.out HF12.out).mono ?_; rintro e w4 ⟨v4, rfl, ho4, hb4⟩; rw [HR.out] at ho4; have HB4 : Hid (Below w.heap.size w w4) := below_then HB3.out hb4; obtain ⟨t0, t1, t2, t3, t4, t5, t6, t7, t8, t9⟩ := H63.out.later hb4; have HO4 := Lib.hid ho4; obtain ⟨e3, e1, vd4, vk4, rfl, o3, o1, hap4⟩ := ho4; obtain ⟨a5, c5, rfl⟩ := o3.slice; obtain ⟨a6, c6, rfl⟩ := o1.slice))
  all_goals
    go_wp2
    refine bodyPost_ret (v := .tuple #[.agg #[.int .i64 R.size, .slice a5 R.doors.length c5, .slice a6 R.keys.length c6], .bool true]) (by simp [results, Try.results17, go_sem, *]) rfl ?_
    have hz4 : w.heap.size + 2 ≤ w3.heap.size := by have := r9; omega
    have hzw := HB3.out.size
    have hb5 : Below w.heap.size w w4 := HB4.out
    have ho5 : MzOwn w3.heap.size w4.heap.size w4 (.agg #[.int .i64 R.size, .slice a5 R.doors.length c5, .slice a6 R.keys.length c6]) R := HO4.out
    refine ⟨_, rfl, MzOwn.mz (lo := w3.heap.size) (hi := w4.heap.size) ?_ (by have := HLD.out; omega) (by have := HLL.out; omega), ?_⟩
    · repeat (first | exact ho5 | refine MzOwn.set ?_ (.inl (by show w.heap.size + 1 < _; omega)) _)
    · repeat (first | exact hb5 | refine Below.setCell ?_ (by show w.heap.size ≤ w.heap.size + 1; omega) _)
end Go.Proofs.Ytbaahghfjmkeoaa
