/- Contracts of LockNeeds. -/
import Derived.Test.YtmapnpgjbahabaaKdLocks
set_option linter.unusedVariables false
set_option linter.unusedSimpArgs false
namespace Go.KD
open Go.RowKit
def bitI (x c : Nat) : Int := if x.testBit c then 1 else 0
/-- Six counts with the bits of x added where f says so. -/
def addF (l : List Int) (x : Nat) (f : Nat → Bool) : List Int := (List.range 6).map fun c => l[c]! + if f c then bitI x c else 0
def doorAdd (l : List Int) (x : Nat) : List Int := addF l x fun _ => true
def needsK (ds : List D3) : Nat → List Int
  | 0 => List.replicate 6 0
  | k + 1 => doorAdd (needsK ds k) ds[k]!.2.2.toNat
noncomputable def pLockNeeds (m : Mz) : List Int × Bool := if goodB m then (needsK m.doors m.doors.length, true) else ([], false)
@[simp] theorem addF_len (l : List Int) (x : Nat) (f : Nat → Bool) : (addF l x f).length = 6 := by simp [addF]
theorem needsK_len (ds : List D3) : ∀ k, (needsK ds k).length = 6
  | 0 => by simp [needsK]
  | k + 1 => by simp [needsK, doorAdd]
theorem pLockNeeds_len (m : Mz) : (pLockNeeds m).1.length ≤ 1000000 := by
  unfold pLockNeeds; split
  · simp only; rw [needsK_len]; omega
  · simp
theorem addF_at (l : List Int) (x : Nat) (f : Nat → Bool) (c : Nat) (hc : c < 6) : (addF l x f)[c]! = l[c]! + if f c then bitI x c else 0 := by
  rw [getElem!_pos _ c (by simpa using hc)]; simp [addF]
theorem addF_none (l : List Int) (x : Nat) (f : Nat → Bool) (hl : l.length = 6) (hf : ∀ c, c < 6 → f c = false) : addF l x f = l := by
  apply List.ext_getElem (by simp [hl])
  intro i h1 h2
  simp only [addF_len] at h1
  have := addF_at l x f i h1
  rw [getElem!_pos _ i (by simpa using h1), getElem!_pos l i h2, hf i h1] at this
  simpa using this
theorem addF_set (l : List Int) (x c : Nat) (f g : Nat → Bool) (hc : c < 6) (hf : f c = false) (hg : ∀ c', c' < 6 → g c' = (f c' || decide (c' = c))) : (addF l x f).set c ((addF l x f)[c]! + bitI x c) = addF l x g := by
  apply List.ext_getElem (by simp)
  intro i h1 h2
  simp only [List.length_set, addF_len] at h1
  have hi := addF_at l x g i h1
  have hi2 := addF_at l x f i h1
  rw [getElem!_pos _ i h2] at hi
  rw [getElem!_pos _ i (by simpa using h1)] at hi2
  rw [List.getElem_set, hi, hg i h1]
  by_cases h : c = i
  · subst h
    rw [if_pos rfl, addF_at l x f c hc, hf]
    simp
  · rw [if_neg h, hi2]
    have : decide (i = c) = false := by simp; exact fun e => h e.symm
    rw [this, Bool.or_false]
theorem addF_congr (l : List Int) (x : Nat) (f g : Nat → Bool) (h : ∀ c, c < 6 → (f c = g c ∨ x.testBit c = false)) : addF l x f = addF l x g := by
  apply List.ext_getElem (by simp)
  intro i h1 h2
  simp only [addF_len] at h1
  have hi := addF_at l x g i h1
  have hi2 := addF_at l x f i h1
  rw [getElem!_pos _ i h2] at hi
  rw [getElem!_pos _ i (by simpa using h1)] at hi2
  rw [hi, hi2]
  rcases h i h1 with h | h
  · rw [h]
  · simp [bitI, h]
theorem needs_bound (ds : List D3) : ∀ (k c : Nat), c < 6 → 0 ≤ (needsK ds k)[c]! ∧ (needsK ds k)[c]! ≤ k
  | 0, c, hc => (by decide : ∀ (c : Nat), c < 6 → 0 ≤ (List.replicate 6 (0 : Int))[c]! ∧ (List.replicate 6 (0 : Int))[c]! ≤ ((0 : Nat) : Int)) c hc
  | k + 1, c, hc => by
    have := needs_bound ds k c hc
    rw [needsK, doorAdd, addF_at _ _ _ c hc]
    unfold bitI
    simp only [if_true]
    split <;> omega
theorem addF_bound (ds : List D3) (k x : Nat) (f : Nat → Bool) (c : Nat) (hc : c < 6) : 0 ≤ (addF (needsK ds k) x f)[c]! ∧ (addF (needsK ds k) x f)[c]! ≤ k + 1 := by
  have := needs_bound ds k c hc
  rw [addF_at _ _ _ c hc]
  unfold bitI
  split
  · split <;> omega
  · omega
theorem door_facts {m : Mz} (h : MzOk m) {k : Nat} (hk : k < m.doors.length) {x y z : Int} (hg : m.doors[k]! = (x, y, z)) : 0 ≤ x ∧ x < y ∧ y < m.size ∧ 0 ≤ z ∧ z < 64 := by
  have := h.dr k hk
  rw [doorB_eq hg] at this
  simp only [Bool.and_eq_true, inB_true, setB_true] at this
  omega
theorem good_ok {m : Mz} (h : goodB m = true) : MzOk m := by
  simp only [goodB, Bool.and_eq_true] at h; exact mazeB_true.1 h.1
theorem own_int {w : World} {lo g n cap : Nat} {e : TypeId} {L : List Int} (h : w.ownsRow lo e 1 (.slice (some ⟨g, 0, none⟩) n cap) n (ints L)) (c : Nat) (hc : c < L.length) : ∃ x, x = L[c]! ∧ w.cell? ⟨g, c, none⟩ = some (.int .i64 x) ∧ w.frozen? ⟨g, c, none⟩ = false := by
  refine ⟨_, rfl, ?_, h.frozenAt _⟩
  have hl := h.1
  rw [length_ints] at hl
  rw [h.cellAt c (by omega), ints, List.getElem?_map, List.getElem?_eq_getElem hc, getElem!_pos L c hc]
  rfl
theorem mem_bit {x : Nat} {i : Int} : i ∈ mem x ↔ ∃ k : Nat, k < 40 ∧ x.testBit k = true ∧ i = (k : Int) := by
  unfold mem memN
  simp only [List.mem_map, List.mem_filter, List.mem_range]
  constructor
  · rintro ⟨k, ⟨h1, h2⟩, h3⟩; exact ⟨k, h1, h2, h3.symm⟩
  · rintro ⟨k, h1, h2, h3⟩; exact ⟨k, ⟨h1, h2⟩, h3.symm⟩
theorem mem_nodup (x : Nat) : (mem x).Nodup := by
  unfold mem memN
  refine List.Pairwise.map _ ?_ (List.Pairwise.filter _ List.nodup_range)
  intro a b h e
  exact h (by omega)
theorem mem_at {x j : Nat} (hx : x < 64) (hj : j < (mem x).length) : ∃ c : Nat, c < 6 ∧ (mem x)[j]! = (c : Int) ∧ x.testBit c = true ∧ ∀ i, i ∈ (mem x).take j → i ≠ (c : Int) := by
  have hm : (mem x)[j] ∈ mem x := List.getElem_mem hj
  obtain ⟨c, _, hb, hc⟩ := mem_bit.1 hm
  have hc6 : c < 6 := by
    rcases Nat.lt_or_ge c 6 with h | h
    · exact h
    · rw [Nat.testBit_lt_two_pow (Nat.lt_of_lt_of_le hx (Nat.pow_le_pow_right (by decide) h : 2 ^ 6 ≤ 2 ^ c))] at hb; cases hb
  refine ⟨c, hc6, by rw [getElem!_pos _ j hj, hc], hb, fun i hi e => ?_⟩
  have hnd := mem_nodup x
  rw [List.nodup_iff_pairwise_ne, List.pairwise_iff_getElem] at hnd
  obtain ⟨t, ht, rfl⟩ := List.mem_iff_getElem.1 hi
  simp only [List.length_take] at ht
  rw [List.getElem_take] at e
  exact hnd t j (by omega) hj (by omega) (e.trans hc.symm)
theorem take_mem {x j : Nat} {c : Nat} (hj : j < (mem x).length) (h : (mem x)[j]! = (c : Int)) (t : Nat) : decide ((t : Int) ∈ (mem x).take (j + 1)) = (decide ((t : Int) ∈ (mem x).take j) || decide (t = c)) := by
  have e : ((t : Int) = (c : Int)) ↔ t = c := by omega
  rw [take_snoc hj, h, Bool.eq_iff_iff]
  simp [e]
theorem bit_y {x c y : Nat} (h : y = x >>> c) : ((y % 2 : Nat) : Int) = bitI x c := by
  rw [h, bit_shr]; unfold bitI; split <;> simp_all
end Go.KD
namespace Go.Proofs.Ytmapnpgjbahabaa
open Go.RowKit Go.KD
attribute [local go_sem] later_cell later_frozen
set_option maxHeartbeats 4000000 in
theorem specLockNeeds_c (v : Value) (m : Mz) (w : World) (R : List Int) (b : Bool) (hp : pLockNeeds m = (R, b)) (hm : MzAt w v m) : Calls Try.prog 31 #[v] w fun e w' => ∃ aw cw, e = .returned (.tuple #[.slice aw R.length cw, .bool b]) ∧ IC w' aw R ∧ Below w.heap.size w w' := by
  have hM := hm
  obtain ⟨⟨ad, cd, ak, ck, rfl, hd, hk'⟩, nd, nk⟩ := hM
  obtain ⟨i0, ji, jz0, jz1, jz2⟩ := info_parts infoI
  cases b1 : goodB m
  · simp only [pLockNeeds, b1] at hp
    cases hp
    go_enter Try.func31, Try.ntmps31
    go_wp2_with (go_at_call 54; refine (l7Good_c _ m _ (hm.later (by (repeat (first | exact Below.refl _ _ | apply Below.drew | apply below_drewN | (refine Below.setCell ?_ (by first | omega | (simp; done) | (simp; omega) | (dsimp only; omega)) _) | (refine Below.alloc ?_ (by first | omega | (simp; done) | (simp; omega) | (dsimp only; omega)) _)))))).mono ?_; rintro e w1 ⟨rfl, hb1⟩; have HB1 : Hid (Below w.heap.size w w1) := below_then (by (repeat (first | exact Below.refl _ _ | apply Below.drew | apply below_drewN | (refine Below.setCell ?_ (by first | omega | (simp; done) | (simp; omega) | (dsimp only; omega)) _) | (refine Below.alloc ?_ (by first | omega | (simp; done) | (simp; omega) | (dsimp only; omega)) _)))) hb1)
    have HBF := Lib.hid (HB1.out.alloc HB1.out.size (.cells #[] 3))
    go_ret2
    exact ⟨_, _, rfl, fun k hk => by simp at hk, HBF.out⟩
  · simp only [pLockNeeds, b1, if_true] at hp
    have ok := good_ok b1
    have hnd : m.doors.length ≤ 30 := ok.nd
    have OK := Lib.hid ok; clear ok
    cases hp
    go_enter Try.func31, Try.ntmps31
    go_wp2_with fail
    refine (l7Good_c _ m _ (hm.later (by (repeat (first | exact Below.refl _ _ | apply Below.drew | apply below_drewN | (refine Below.setCell ?_ (by first | omega | (simp; done) | (simp; omega) | (dsimp only; omega)) _) | (refine Below.alloc ?_ (by first | omega | (simp; done) | (simp; omega) | (dsimp only; omega)) _)))))).mono ?_
    rintro e w1 ⟨rfl, hb1⟩
    have HB1 : Hid (Below w.heap.size w w1) := below_then (by (repeat (first | exact Below.refl _ _ | apply Below.drew | apply below_drewN | (refine Below.setCell ?_ (by first | omega | (simp; done) | (simp; omega) | (dsimp only; omega)) _) | (refine Below.alloc ?_ (by first | omega | (simp; done) | (simp; omega) | (dsimp only; omega)) _)))) hb1
    have hz1 := hb1.size
    simp only [World.size_alloc] at hz1
    have hz3 : w.heap.size < w1.heap.size := by omega
    have q1 : w1.cell? ⟨w.heap.size, 1, none⟩ = some (.slice ad m.doors.length cd) := by rw [hb1.cell (p := ⟨w.heap.size, 1, none⟩) (by simp)]; simp [go_sem]
    rw [b1]
    clear hb1
    have J2 := Lib.hid jz2
    go_wp2_with (refine wpList_make_full _ rfl _ _ 23 rfl w1.heap.size 3 i0 (.int .i64 0) 1 Try.underlying23 ji jz0 jz1 .i64 .i64 _ _ 6 rfl rfl rfl rfl ?_ ?_ (Nat.le_refl _) ?_; (rw [J2.out]; omega); (unfold maxLen; omega); intro w2 hown hg; rw [madeI] at hown; have HO := Lib.hid hown; clear hown)
    have HB2 : Hid (Below w1.heap.size w1 w2) := (Below.refl _ _).grown hg (Nat.le_refl _) (fun k h => by cases h)
    clear hg
    go_loopw [5, 6] (fun i _ wr => ∃ k : Nat, k ≤ m.doors.length ∧ i = .int .i64 k ∧ Below w1.heap.size w1 wr ∧ Hid (wr.ownsRow w1.heap.size 3 1 (.slice (some ⟨w1.heap.size, 0, none⟩) 6 6) 6 (ints (needsK m.doors k)))) (fun i _ _ => m.doors.length - (intOf i).toNat)
    case atStart => exact ⟨0, Nat.zero_le _, rfl, HB2.out, HO.out⟩
    case round =>
      obtain ⟨wo, rfl⟩ : ∃ wo : World, wo = wr := ⟨_, rfl⟩
      obtain ⟨k, hk, rfl, hb, HN⟩ := hrel
      have r1 : wo.cell? ⟨w.heap.size, 1, none⟩ = some (.slice ad m.doors.length cd) := (hb.cell (p := ⟨w.heap.size, 1, none⟩) hz3).trans q1
      have HB : Hid (Below w.heap.size w wo) := below_then HB1.out hb
      by_cases hlt : k < m.doors.length
      · obtain ⟨b, off, x, y, z, rfl, HX, hbs, e0, e1, e2⟩ := (hd.later HB.out).at k hlt
        obtain ⟨f1, f2, f3, f4, f5⟩ := door_facts OK.out hlt HX.out
        obtain ⟨zn, rfl⟩ := Int.eq_ofNat_of_zero_le f4
        have HF : Hid (needsK m.doors (k + 1) = addF (needsK m.doors k) zn fun _ => true) := by
          show doorAdd _ _ = _
          rw [HX.out]; rfl
        clear e0 e1 f1 f2 f3 f4
        go_wp2
        go_loopw [6] (fun c wr => ∃ c' : Nat, c' ≤ 6 ∧ c = .int .i64 c' ∧ Below w1.heap.size w1 wr ∧ Hid (wr.ownsRow w1.heap.size 3 1 (.slice (some ⟨w1.heap.size, 0, none⟩) 6 6) 6 (ints (addF (needsK m.doors k) zn fun t => decide (t < c'))))) (fun c _ => 6 - (intOf c).toNat)
        case atStart => exact ⟨0, by omega, rfl, hb, by rw [addF_none _ _ _ (needsK_len _ _) (fun c hc => by simp)]; exact HN.out⟩
        case round =>
          obtain ⟨c, hc, rfl, hb2, HO2⟩ := hrel
          by_cases hc6 : c < 6
          · obtain ⟨yv, HY, ey⟩ := shr_at zn c
            have hyv : yv < 1099511627776 := by
              have := HY.out; rw [Nat.shiftRight_eq_div_pow] at this; have := Nat.div_le_self zn (2 ^ c); omega
            have ea := and1 hyv
            have hm2 : yv % 2 < 2 := Nat.mod_lt _ (by omega)
            have HBY := Lib.hid (bit_y HY.out)
            have hbd := addF_bound m.doors k zn (fun t => decide (t < c)) c hc6
            obtain ⟨lc, hlc, c0, c1⟩ := own_int HO2.out c (by simpa using hc6)
            rw [← hlc] at hbd
            have HLC := Lib.hid hlc
            have HBX : Hid (Below w.heap.size w wr) := below_then HB1.out hb2
            obtain ⟨b3, off3, x3, y3, z3, hb3, HX3, hbs3, -, -, t2⟩ := (hd.later HBX.out).at k hlt
            obtain ⟨rfl, rfl, rfl⟩ : x3 = x ∧ y3 = y ∧ z3 = (zn : Int) := by have := HX3.out.symm.trans HX.out; simpa using this
            cases hb3
            have t1 : wr.cell? ⟨w.heap.size, 1, none⟩ = some (.slice (some ⟨b, off, none⟩) m.doors.length cd) := (hb2.cell (p := ⟨w.heap.size, 1, none⟩) hz3).trans q1
            have hc0 : (0 : Int) ≤ (c : Int) := by omega
            have hc1 : (c : Int) ≤ 63 := by omega
            clear hyv hlc
            go_wp2
            refine wp_region_tail 17 (by kernel_rfl) (by kernel_rfl) ?_
            simp only [List.take_succ_cons, List.take_zero, List.drop_succ_cons, List.drop_zero]
            repeat still_step
            refine wpStill_nil ?_
            go_wp2
            go_roundw
            case rel =>
              have st := own_store1 HO2.out c (lc + ((yv % 2 : Nat) : Int))
              rw [HBY.out, HLC.out, addF_set (needsK m.doors k) zn c (fun t => decide (t < c)) (fun t => decide (t < c + 1)) hc6 (by simp) (by intro t _; rw [Bool.eq_iff_iff]; simp; omega)] at st
              rw [← HBY.out, ← HLC.out] at st
              exact ⟨c + 1, by omega, by go_num, (hb2.setCell (Nat.le_refl _) _).drew, st.1.drew⟩
            case measure => simp [intOf]; omega
          · obtain rfl : c = 6 := by omega
            go_wp2
            go_roundw
            case rel => exact ⟨k + 1, by omega, by go_num, hb2, by
              rw [HF.out, addF_congr _ zn (fun _ => true) (fun t => decide (t < 6)) (fun c hc => .inl (by simp [hc]))]; exact HO2.out⟩
            case measure => simp [intOf]; omega
      · obtain rfl : k = m.doors.length := by omega
        have hln := needsK_len m.doors m.doors.length
        have HLN := Lib.hid hln; clear hln
        have HFIN : Hid (∃ aw cw, Value.slice (some ⟨w1.heap.size, 0, none⟩) 6 6 = .slice aw (needsK m.doors m.doors.length).length cw ∧ IC wo aw (needsK m.doors m.doors.length)) := ⟨_, _, by rw [HLN.out], ic_of' (Own.of HN.out) HLN.out.symm⟩
        go_wp2
        go_ret2
        obtain ⟨aw, cw, hv, hi⟩ := HFIN.out
        refine ⟨aw, cw, ?_, hi, HB.out⟩
        show Ending.returned (Value.tuple #[Value.slice (some ⟨w1.heap.size, 0, none⟩) 6 6, Value.bool true]) = _
        rw [hv]
set_option maxHeartbeats 4000000 in
theorem implLockNeeds_c (v : Value) (m : Mz) (w : World) (R : List Int) (b : Bool) (hp : pLockNeeds m = (R, b)) (hm : MzAt w v m) : Calls Try.prog 32 #[v] w fun e w' => ∃ u, e = .returned (.tuple #[u, .bool b]) ∧ w'.ownsRow w.heap.size 3 1 u R.length (ints R) ∧ Below w.heap.size w w' := by
  have hM := hm
  obtain ⟨⟨ad, cd, ak, ck, rfl, hd, hk'⟩, nd, nk⟩ := hM
  obtain ⟨i0, ji, jz0, jz1, jz2⟩ := info_parts infoI
  cases b1 : goodB m
  · simp only [pLockNeeds, b1] at hp
    cases hp
    go_enter Try.func32, Try.ntmps32
    go_wp2_with (go_at_call 56; refine (isSpent_c _ m _ (hm.later (by (repeat (first | exact Below.refl _ _ | apply Below.drew | apply below_drewN | (refine Below.setCell ?_ (by first | omega | (simp; done) | (simp; omega) | (dsimp only; omega)) _) | (refine Below.alloc ?_ (by first | omega | (simp; done) | (simp; omega) | (dsimp only; omega)) _)))))).mono ?_; rintro e w1 ⟨rfl, hb1⟩; have HB1 : Hid (Below w.heap.size w w1) := below_then (by (repeat (first | exact Below.refl _ _ | apply Below.drew | apply below_drewN | (refine Below.setCell ?_ (by first | omega | (simp; done) | (simp; omega) | (dsimp only; omega)) _) | (refine Below.alloc ?_ (by first | omega | (simp; done) | (simp; omega) | (dsimp only; omega)) _)))) hb1)
    go_ret2
    exact ⟨_, rfl, ⟨rfl, .inl ⟨rfl, rfl⟩⟩, HB1.out⟩
  · simp only [pLockNeeds, b1, if_true] at hp
    have ok := good_ok b1
    have hnd : m.doors.length ≤ 30 := ok.nd
    have OK := Lib.hid ok; clear ok
    cases hp
    go_enter Try.func32, Try.ntmps32
    go_wp2_with fail
    refine (isSpent_c _ m _ (hm.later (by (repeat (first | exact Below.refl _ _ | apply Below.drew | apply below_drewN | (refine Below.setCell ?_ (by first | omega | (simp; done) | (simp; omega) | (dsimp only; omega)) _) | (refine Below.alloc ?_ (by first | omega | (simp; done) | (simp; omega) | (dsimp only; omega)) _)))))).mono ?_
    rintro e w1 ⟨rfl, hb1⟩
    have HB1 : Hid (Below w.heap.size w w1) := below_then (by (repeat (first | exact Below.refl _ _ | apply Below.drew | apply below_drewN | (refine Below.setCell ?_ (by first | omega | (simp; done) | (simp; omega) | (dsimp only; omega)) _) | (refine Below.alloc ?_ (by first | omega | (simp; done) | (simp; omega) | (dsimp only; omega)) _)))) hb1
    have hz1 := hb1.size
    simp only [World.size_alloc] at hz1
    have hz3 : w.heap.size < w1.heap.size := by omega
    have q1 : w1.cell? ⟨w.heap.size, 1, none⟩ = some (.slice ad m.doors.length cd) := by rw [hb1.cell (p := ⟨w.heap.size, 1, none⟩) (by simp)]; simp [go_sem]
    rw [b1]
    clear hb1
    have J2 := Lib.hid jz2
    go_wp2_with (refine wpList_make_full _ rfl _ _ 23 rfl w1.heap.size 3 i0 (.int .i64 0) 1 Try.underlying23 ji jz0 jz1 .i64 .i64 _ _ 6 rfl rfl rfl rfl ?_ ?_ (Nat.le_refl _) ?_; (rw [J2.out]; omega); (unfold maxLen; omega); intro w2 hown hg; rw [madeI] at hown; have HO := Lib.hid hown; clear hown; have HB2 : Hid (Below w1.heap.size w1 w2) := (Below.refl _ _).grown hg (Nat.le_refl _) (fun k h => by cases h); have q2 : w2.cell? ⟨w.heap.size, 1, none⟩ = some (.slice ad m.doors.length cd) := (HB2.out.cell (p := ⟨w.heap.size, 1, none⟩) hz3).trans q1; clear hg)
    go_loopw [16] (fun i wr => ∃ k : Nat, k ≤ m.doors.length ∧ i = .int .i64 k ∧ Below w1.heap.size w1 wr ∧ Hid (wr.ownsRow w1.heap.size 3 1 (.slice (some ⟨w1.heap.size, 0, none⟩) 6 6) 6 (ints (needsK m.doors k)) ∧ w1.heap.size < wr.heap.size)) (fun i _ => m.doors.length - (intOf i).toNat)
    case atStart => exact ⟨0, Nat.zero_le _, rfl, HB2.out, HO.out, (Own.of HO.out).top _ rfl⟩
    case round =>
      obtain ⟨wo, rfl⟩ : ∃ wo : World, wo = wr := ⟨_, rfl⟩
      obtain ⟨k, hk, rfl, hb, HN⟩ := hrel
      have HB : Hid (Below w.heap.size w wo) := below_then HB1.out hb
      by_cases hlt : k < m.doors.length
      · obtain ⟨b, off, x, y, z, rfl, HX, hbs, e0, e1, e2⟩ := (hd.later HB.out).at k hlt
        obtain ⟨f1, f2, f3, f4, f5⟩ := door_facts OK.out hlt HX.out
        obtain ⟨zn, rfl⟩ := Int.eq_ofNat_of_zero_le f4
        have hzn : zn < 64 := by omega
        have HF : Hid (needsK m.doors (k + 1) = addF (needsK m.doors k) zn fun _ => true) := by
          show doorAdd _ _ = _
          rw [HX.out]; rfl
        have hzo := HN.out.2
        clear f1 f2 f3 f4 f5
        go_wp2_with fail
        refine (members_c zn (by omega) _).mono ?_
        rintro e w3 ⟨vm, rfl, hom, hbm⟩
        have HM := Lib.hid (Own.of hom); clear hom
        obtain ⟨am, cm, rfl, hmm, him⟩ := HM.out.ic
        have HIM := Lib.hid him; clear him
        have hzm := hbm.size
        simp only [World.size_alloc] at hzm
        have HBM : Hid (Below w1.heap.size w1 w3) := (hb.alloc (by omega) _).trans (hbm.mono (by simp; omega))
        have hml : Hid ((mem zn).length ≤ 6) := by show _ ≤ _; rw [mem_len zn hzn]; exact pop_le6 zn hzn
        have HN3 : Hid (w3.ownsRow w1.heap.size 3 1 (.slice (some ⟨w1.heap.size, 0, none⟩) 6 6) 6 (ints (needsK m.doors k))) := (((Own.of HN.out.1).later ((Below.refl _ _).alloc (Nat.le_refl _) _) (Nat.le_refl _)).later hbm (by simp)).row
        clear hbm
        go_wp2
        go_loopw [24] (fun c wr => ∃ j : Nat, j ≤ (mem zn).length ∧ c = .int .i64 j ∧ Below w1.heap.size w1 wr ∧ Chg w1.heap.size (w1.heap.size + 1) w3 wr ∧ Hid (wr.ownsRow w1.heap.size 3 1 (.slice (some ⟨w1.heap.size, 0, none⟩) 6 6) 6 (ints (addF (needsK m.doors k) zn fun t => decide ((t : Int) ∈ (mem zn).take j))))) (fun c _ => (mem zn).length - (intOf c).toNat)
        case atStart => exact ⟨0, by omega, rfl, HBM.out, Chg.of_below (Below.refl _ _), by rw [addF_none _ _ _ (needsK_len _ _) (fun c hc => by simp)]; exact HN3.out⟩
        case round =>
          obtain ⟨j, hj, rfl, hb2, hch, HO2⟩ := hrel
          by_cases hjl : j < (mem zn).length
          · obtain ⟨c, hc6, hmc, hbit, hnot⟩ := mem_at hzn hjl
            have HMC := Lib.hid hmc
            have HBIT := Lib.hid hbit
            have HNOT := Lib.hid hnot
            clear hmc hbit hnot
            have hbd := addF_bound m.doors k zn (fun t => decide ((t : Int) ∈ (mem zn).take j)) c hc6
            obtain ⟨lc, hlc, c0, c1⟩ := own_int HO2.out c (by simpa using hc6)
            rw [← hlc] at hbd
            have HLC := Lib.hid hlc; clear hlc
            obtain ⟨bm, offm, xm, rfl, HXM, hbsm, t0⟩ := (ic_of (HM.out.chg hch (.inr (by simp; omega)))).at j hjl
            obtain rfl : xm = (c : Int) := HXM.out.symm.trans HMC.out
            have hjm : (j : Int) < ((mem zn).length : Int) := by omega
            have hj0 : j ≤ 6 := by have := hml.out; omega
            go_wp2
            go_roundw
            case rel =>
              have st := own_store1 HO2.out c (lc + 1)
              have e1 : (1 : Int) = bitI zn c := by unfold bitI; rw [HBIT.out]; rfl
              rw [show lc + 1 = lc + bitI zn c by rw [← e1], HLC.out, addF_set (needsK m.doors k) zn c (fun t => decide ((t : Int) ∈ (mem zn).take j)) (fun t => decide ((t : Int) ∈ (mem zn).take (j + 1))) hc6 (by rw [decide_eq_false_iff_not]; intro h; exact HNOT.out _ h rfl) (fun t _ => take_mem hjl HMC.out t)] at st
              rw [← HLC.out, show lc + bitI zn c = lc + 1 by rw [← e1]] at st
              exact ⟨j + 1, by omega, by go_num, hb2.setCell (Nat.le_refl _) _, hch.trans (Chg.of_grown st.2 (fun g hg => by cases hg; omega)), st.1⟩
            case measure => simp [intOf]; omega
          · obtain rfl : j = (mem zn).length := by omega
            have hj0 : (mem zn).length ≤ 6 := hml.out
            go_wp2
            go_roundw
            case rel => exact ⟨k + 1, by omega, by go_num, hb2, by
              refine ⟨?_, by have := hch.size; omega⟩
              rw [HF.out, addF_congr _ zn (fun _ => true) (fun t => decide ((t : Int) ∈ (mem zn).take (mem zn).length)) (fun c hc => by
                cases hcb : zn.testBit c
                · exact .inr rfl
                · left; symm; rw [decide_eq_true_iff, List.take_of_length_le (Nat.le_refl _)]; exact mem_bit.2 ⟨c, by omega, hcb, rfl⟩)]; exact HO2.out⟩
            case measure => simp [intOf]; omega
      · obtain rfl : k = m.doors.length := by omega
        have HLN := Lib.hid (needsK_len m.doors m.doors.length)
        have HFIN : Hid ((6 : Nat) = (needsK m.doors m.doors.length).length) := HLN.out.symm
        go_wp2
        go_ret2
        refine ⟨_, rfl, ?_, HB.out⟩
        rw [← HFIN.out]
        exact (Own.mono (Own.of HN.out.1) (by omega) (Nat.le_refl _)).row
end Go.Proofs.Ytmapnpgjbahabaa
